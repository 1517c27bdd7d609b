/-
  term.Map with a function that keeps nothing, term.Copy.
  hornref.Find, hornref.Apply
-/
import Derived.Test.YteonakicoomjkaaTB04
import Derived.Test.YteonakicoomjkaaTB02
namespace Go.Proofs.Yteonakicoomjkaa
open Go.RowKit

/-- A function value that may be called: what it makes of a variable, whatever has grown since. -/
def MapFn (fv : Value) (S : Nat → Prop) (f : Int → T) (w0 : World) : Prop :=
  (∀ b, S b → b < w0.heap.size) ∧ ∃ (fid : FuncId) (cap : Array Value), fv = .func (.func fid) #[] cap ∧ (∀ (n : Int) (w : World), (callFunc fid (#[.int .i64 n] ++ cap)).run Try.prog w = .ok (.enter fid (#[.int .i64 n] ++ cap)) w) ∧
    ∀ (n : Int) (w : World), Gr w0 w → In64 n → Calls Try.prog fid (#[.int .i64 n] ++ cap) w (RetTm (fun b => S b ∨ w.heap.size ≤ b) (f n) w)

theorem MapFn.gr {fv : Value} {S : Nat → Prop} {f : Int → T} {w0 w1 : World} (h : MapFn fv S f w0) (hg : Gr w0 w1) : MapFn fv S f w1 := by
  obtain ⟨h0, fid, cap, h1, h2, h3⟩ := h
  exact ⟨fun b hb => Nat.lt_of_lt_of_le (h0 b hb) hg.size, fid, cap, h1, h2, fun n w hw hn => h3 n w (hg.trans hw) hn⟩

theorem in_after' {w2 W : World} {tb : Tm} {S : Nat → Prop} (hin : tb.In w2) (hon : tb.On S) (hc : ∀ b, S b → b < w2.heap.size → ∀ o, W.cell? ⟨b, o, none⟩ = w2.cell? ⟨b, o, none⟩) : tb.In W :=
  Tm.In.same (S := fun b => S b ∧ b < w2.heap.size) (fun b hb o => hc b hb.1 hb.2 o) hin (Tm.On.and hon (Tm.In.on hin))

theorem infoTermM : (Try.prog.info? 24).map (fun i => (i.zero, i.size, i.bytes)) = some (some (.agg #[.int .i64 0, .int .i64 0, .string ⟨#[]⟩, .slice none 0 0]), 4, 56) := by kernel_rfl

theorem after_make {w w1 : World} {v0 v1 v2 v3 u0 u1 u2 u3 : Value} (h : ((w.alloc (.cells #[v0, v1, v2, v3] 24)).alloc (.cells #[u0, u1, u2, u3] 24)).grownBy w1 none) :
    Blk4 w1 w.heap.size v0 v1 v2 v3 ∧ Hid (Blk4 w1 w.heap.size v0 v1 v2 v3 ∧ Blk4 w1 (w.heap.size + 1) u0 u1 u2 u3 ∧ Gr w w1) := by
  have hg0 := grownBy_below h (Nat.le_refl _) (fun _ h => by cases h)
  have h1 : Blk4 w1 w.heap.size v0 v1 v2 v3 := Blk4.gr (Blk4.old (Blk4.new w _ _ _ _) _) hg0
  refine ⟨h1, h1, Blk4.gr ?_ hg0, below_step hg0 (by go_grown)⟩
  have := Blk4.new (w.alloc (.cells #[v0, v1, v2, v3] 24)) u0 u1 u2 u3
  simpa only [World.size_alloc] using this

theorem fill_made {w w1 : World} {o1 o2 : Obj} {S : Nat → Prop} {n : Nat} {xs : List Value} (h : w1.ownsRow w.heap.size 24 4 (.slice (some ⟨((w.alloc o1).alloc o2).heap.size, 0, none⟩) n n) n xs) :
    Hid (Filling w1 (w.heap.size + 1 + 1) S (w.heap.size + 1 + 1) n []) := Filling.new (Nat.le_refl _) (by simpa only [World.size_alloc] using h)

set_option maxHeartbeats 2000000 in
set_option maxRecDepth 100000 in
theorem map_var (n : Int) (s : ByteArray) (p : Option Addr) (c : Nat) (l : List Tm) (fv : Value) (S : Nat → Prop) (f : Int → T) (w : World) (h : (Tm.mk 1 n s p c l).In w) (hf : MapFn fv S f w) :
    Calls Try.prog 88 #[(Tm.mk 1 n s p c l).val, fv] w (RetTm (fun b => S b ∨ w.heap.size ≤ b) (f n) w) := by
  rw [Tm.In] at h
  obtain ⟨hk, hn, hs, hlc, hc, hp, hIn⟩ := h
  clear hp hIn
  obtain ⟨hS, fid, cap, rfl, hq, hcall⟩ := hf
  have HS := Lib.hid hS
  clear hS
  have Hcall := Lib.hid hcall
  have Hn := Lib.hid hn
  clear hcall
  simp only [Tm.val, Tm.k, Tm.n, Tm.s, Tm.p, Tm.c, Tm.l]
  go_enter Try.func88, Try.ntmps88
  go_wp2_with fail
  refine (Hcall.out n _ (by go_grown) Hn.out).mono ?_
  rintro e w1 ⟨bm, hin, he, rfl, hb1, hon⟩
  obtain ⟨⟨y0, y1, y2, y3⟩, ⟨f0, f1, f2, f3⟩, hlt⟩ := (Blk4.gr (Blk4.new _ _ _ _ _) hb1).parts
  simp only [World.size_alloc] at y0 y1 y2 y3 f0 f1 f2 f3 hlt hon
  have g1 : Gr w w1 := below_step hb1 (by go_grown)
  have hs0 : w.heap.size + 1 < w1.heap.size := hlt
  have Hin := Lib.hid hin
  have Hon := Lib.hid hon
  have He := Lib.hid he
  clear hin hon he hb1
  obtain ⟨k', n', s', p', c', l'⟩ := bm
  simp only [Tm.val, Tm.k, Tm.n, Tm.s, Tm.p, Tm.c, Tm.l]
  go_wp2_with fail
  refine bodyPost_ret (v := (Tm.mk k' n' s' p' c' l').val) (by simp [results, Try.results88, go_sem, Tm.val, Tm.k, Tm.n, Tm.s, Tm.p, Tm.c, Tm.l, y0, y1, y2, y3]) rfl ⟨Tm.mk k' n' s' p' c' l', ?_, He.out, rfl, by go_grown, Hon.out.mono fun b hb => hb.imp id fun h => by omega⟩
  exact in_after' Hin.out Hon.out fun b h1 h2 o => by
    have : b ≠ w.heap.size + 1 := by rcases h1 with h1 | h1; · have := HS.out b h1; omega
                                     · omega
    rw [cell_set_ne this, cell_set_ne this, cell_set_ne this, cell_set_ne this]

set_option maxHeartbeats 2000000 in
set_option maxRecDepth 100000 in
theorem map_leaf (k n : Int) (s : ByteArray) (p : Option Addr) (c : Nat) (l : List Tm) (fv : Value) (w : World) (h : (Tm.mk k n s p c l).In w) (hk1 : k ≠ 1) (hk4 : k ≠ 4) :
    Calls Try.prog 88 #[(Tm.mk k n s p c l).val, fv] w (RetTm (w.heap.size ≤ ·) (.mk k n s.toList []) w) := by
  rw [Tm.In] at h
  obtain ⟨hk, hn, hs, hlc, hc, hp, hIn⟩ := h
  clear hp hIn
  have hk1' : (k == 1) = false := beq_eq_false_iff_ne.2 hk1
  have hk4' : (k == 4) = false := beq_eq_false_iff_ne.2 hk4
  have Hk := Lib.hid hk
  have Hn := Lib.hid hn
  have Hs := Lib.hid hs
  clear hk1 hk4 hk hn hs
  simp only [Tm.val, Tm.k, Tm.n, Tm.s, Tm.p, Tm.c, Tm.l]
  go_enter Try.func88, Try.ntmps88
  go_wp2_with fail
  refine bodyPost_ret (v := (Tm.mk k n s none 0 []).val) (by simp [results, Try.results88, go_sem, Tm.val, Tm.k, Tm.n, Tm.s, Tm.p, Tm.c, Tm.l]) rfl ⟨Tm.mk k n s none 0 [], ?_, by simp [Tm.erase, Tm.eraseL], rfl, by go_grown, ?_⟩
  · rw [Tm.In, Tm.InL]
    exact ⟨Hk.out, Hn.out, Hs.out, Nat.le_refl _, ⟨by simp, by omega⟩, .inl rfl, trivial⟩
  · rw [Tm.On, Tm.OnL]; exact ⟨.inl rfl, trivial⟩

set_option maxHeartbeats 4000000 in
set_option maxRecDepth 100000 in
theorem map_any (N : Nat) : ∀ (t : Tm) (fv : Value) (S : Nat → Prop) (f : Int → T) (w : World), SizeOf.sizeOf t ≤ N → t.In w → t.erase.formed = true → MapFn fv S f w →
    Calls Try.prog 88 #[t.val, fv] w (RetTm (fun b => S b ∨ w.heap.size ≤ b) (T.map f t.erase) w) := by
  induction N with
  | zero => intro t fv S f w h; cases t; simp at h
  | succ N ih =>
    intro t fv S f w hN h hfm hf
    obtain ⟨k, n, s, p, c, l⟩ := t
    by_cases hk1 : k = 1
    · subst hk1
      rw [Tm.erase, T.map, if_pos rfl]
      exact map_var n s p c l fv S f w h hf
    by_cases hk4 : k = 4
    · subst hk4
      obtain ⟨rfl, h100, hl1, hl50, hfl⟩ := formed_elem rfl hfm
      have hsz := fun x (hx : x ∈ l) => Tm.sizeOf_mem hx 4 0 s p c
      have HT := Lib.hid h
      have HSl := Lib.hid h.sl
      rw [Tm.In] at h
      obtain ⟨hk, hn, hs, hlc, hc, hp, hIn⟩ := h
      obtain ⟨b, o, rfl⟩ := HSl.out.ptr (by omega)
      have hbl : b < w.heap.size := Tm.row_lt (by rcases hp with rfl | ⟨b', o', he, hr⟩; · simp at hl1
                                                  · cases he; exact hr) (by rintro rfl; simp at hl1)
      obtain ⟨hS, fid, cap, rfl, hq, hcall⟩ := hf
      have HS := Lib.hid hS
      have Hf : Hid (MapFn (.func (.func fid) #[] cap) S f w) := ⟨hS, fid, cap, rfl, hq, hcall⟩
      have Hih := Lib.hid ih
      have Hsz := Lib.hid hsz
      have Hfl := Lib.hid hfl
      have Hs := Lib.hid hs
      clear hp hIn hcall hS hq ih hsz hfl hk hn hfm
      obtain ⟨i0, hi, hz0, hz1, hz2⟩ := info_parts infoTermM
      have Hi := Lib.hid hi
      clear hi
      rw [Tm.erase, T.map, if_neg (by decide), if_pos rfl]
      simp only [Tm.val, Tm.k, Tm.n, Tm.s, Tm.p, Tm.c, Tm.l]
      go_enter Try.func88, Try.ntmps88
      go_wp2_with
        (refine wpList_make_full _ rfl _ _ 22 rfl (w.heap.size) 24 i0 _ 4 Try.underlying22 Hi.out hz0 hz1 .i64 .i64 _ _ l.length rfl rfl rfl rfl (by rw [hz2]; omega) (by simp only [maxLen]; omega) (by simp; omega) ?_
         intro w1 hown hgrow
         have HF := fill_made (S := S) hown
         have HA := (after_make hgrow).2
         obtain ⟨⟨b0, b1, b2, b3⟩, _, _⟩ := (after_make hgrow).1.parts
         clear hown hgrow)
      obtain ⟨HB, HR, g1⟩ := HA.out
      replace HB := Lib.hid HB
      replace HR := Lib.hid HR
      have hg2 : w.heap.size + 1 + 1 < w1.heap.size := HF.out.lt
      clear b0 b1 b2 b3 HA
      go_loopw [25] (fun i wr => ∃ k : Nat, k ≤ l.length ∧ i = .int .i64 k ∧ Hid (∃ lm : List Tm, lm.length = k ∧ Tm.eraseL lm = T.mapL f (Tm.eraseL (l.take k)) ∧ Filling wr (w.heap.size + 1 + 1) S (w.heap.size + 1 + 1) l.length lm) ∧ Below (w.heap.size + 1 + 1) w1 wr)
        (fun i _ => l.length - (intOf i).toNat)
      case atStart => exact ⟨0, Nat.zero_le _, rfl, ⟨[], rfl, by simp [T.mapL, Tm.eraseL], HF.out⟩, Below.refl _ _⟩
      case round =>
        obtain ⟨k, hk, rfl, hlm, hb⟩ := hrel
        have hbs := hb.size
        have gr : Gr w wr := Below.trans g1 (hb.mono (by omega))
        have HB' : Hid _ := Lib.hid (HB.out.below hb (by omega))
        have HR' : Hid _ := Lib.hid (HR.out.below hb (by omega))
        by_cases hlt : k < l.length
        · obtain ⟨⟨c0, c1, c2, c3⟩, hx, _⟩ := (HSl.out.mono gr).elem k hlt
          have Hx := Lib.hid hx
          have hmem : l[k] ∈ l := List.getElem_mem hlt
          have Hz := Hsz.out _ hmem
          have Hfx := Lib.hid (Hfl.out _ hmem)
          have Htk : Hid (T.mapL f (Tm.eraseL (l.take (k + 1))) = T.mapL f (Tm.eraseL (l.take k)) ++ [T.map f l[k].erase]) := T.mapL_erase f l k hlt
          clear hx hmem
          generalize hxe : l[k] = x at *
          go_wp2_with fail
          refine (Hih.out x _ S f _ (by omega) (Tm.In_below (by go_grown) Hx.out) Hfx.out (Hf.out.gr (by go_grown))).mono ?_
          rintro e w2 ⟨xm, hin, he, rfl, hb2, hon⟩
          obtain ⟨lm, hl0, he0, hF⟩ := hlm.out
          have hF2 : Filling w2 (w.heap.size + 1 + 1) S (w.heap.size + 1 + 1) l.length lm := Filling.gr (w := wr) hF (below_step hb2 (by go_grown))
          have HF2 := Lib.hid hF2
          have g2 : Below (w.heap.size + 1 + 1) w1 w2 := Below.trans hb ((show Gr wr w2 from below_step hb2 (by go_grown)).mono (by omega))
          obtain ⟨⟨q0, r0⟩, fr0⟩ := hF2.spot (j := k * 4) (by omega)
          obtain ⟨⟨q1, r1⟩, fr1⟩ := hF2.spot (j := k * 4 + 1) (by omega)
          obtain ⟨⟨q2, r2⟩, fr2⟩ := hF2.spot (j := k * 4 + 2) (by omega)
          obtain ⟨⟨q3, r3⟩, fr3⟩ := hF2.spot (j := k * 4 + 3) (by omega)
          have hs2 := hb2.size
          simp only [World.size_alloc] at hs2 hon
          have Hl0 := Lib.hid hl0
          have He0 := Lib.hid he0
          have Hin := Lib.hid hin
          have Hon := Lib.hid hon
          have He := Lib.hid he
          clear hF hF2 hl0 he0 hin hon he hb2 hlm
          obtain ⟨k', n', s', p', c', l'⟩ := xm
          simp only [Tm.val, Tm.k, Tm.n, Tm.s, Tm.p, Tm.c, Tm.l]
          go_wp2_with fail
          go_roundw
          case rel =>
            refine ⟨k + 1, by omega, by go_num, ⟨lm ++ [.mk k' n' s' p' c' l'], by simp [Hl0.out], by rw [eraseL_append, He0.out, Htk.out]; simp [Tm.eraseL, He.out], ?_⟩, by go_grown⟩
            have := HF2.out.store (x := .mk k' n' s' p' c' l') (by rw [Hl0.out]; exact hlt) Hin.out (Hon.out.mono fun b hb => ?_)
            · rw [Hl0.out] at this
              simpa only [Tm.k, Tm.n, Tm.s, Tm.p, Tm.c, Tm.l] using this
            · rcases hb with hb | hb
              · exact ⟨.inl hb, by have := HS.out b hb; omega⟩
              · exact ⟨.inr (by omega), by omega⟩
          case measure => simp [intOf]; omega
        · obtain rfl : k = l.length := by omega
          obtain ⟨lm, hl0, he0, hF⟩ := hlm.out
          obtain ⟨⟨b0, b1, b2, b3⟩, ⟨e0, e1, e2, e3⟩, hbs1⟩ := HB'.out.parts
          obtain ⟨⟨y0, y1, y2, y3⟩, ⟨f0, f1, f2, f3⟩, hbs2⟩ := HR'.out.parts
          have HF := Lib.hid hF
          have Hl0 := Lib.hid hl0
          have He0 := Lib.hid he0
          clear hF hl0 he0 hlm
          go_wp2_with fail
          refine bodyPost_ret (v := (Tm.mk 4 0 s (some ⟨w.heap.size + 1 + 1, 0, none⟩) l.length lm).val) (by simp [results, Try.results88, go_sem, Tm.val, Tm.k, Tm.n, Tm.s, Tm.p, Tm.c, Tm.l, Hl0.out, y0, y1, y2, y3]) rfl ⟨_, ?_, ?_, rfl, by go_grown, ?_⟩
          · have hsl := HF.out.sl Hl0.out (by omega)
            have hin : (Tm.mk 4 0 s (some ⟨w.heap.size + 1 + 1, 0, none⟩) l.length lm).In wr := compTm_in Hs.out hsl.1
            have hon : (Tm.mk 4 0 s (some ⟨w.heap.size + 1 + 1, 0, none⟩) l.length lm).On (fun b => S b ∨ w.heap.size + 1 + 1 ≤ b) := by rw [Tm.On]; exact hsl.2
            exact in_after' hin hon fun b h1 h2 o => by
              have : b ≠ w.heap.size ∧ b ≠ w.heap.size + 1 := by
                rcases h1 with h1 | h1
                · have := HS.out b h1; omega
                · omega
              rw [cell_set_ne this.2, cell_set_ne this.2, cell_set_ne this.2, cell_set_ne this.2, cell_set_ne this.1]
          · rw [Tm.erase, He0.out, List.take_length]
          · have hsl := HF.out.sl Hl0.out (by omega)
            rw [Tm.On]
            exact ⟨hsl.2.1.imp id fun ⟨b, o, h1, h2⟩ => ⟨b, o, h1, h2.imp id fun h => by omega⟩, hsl.2.2.mono fun b hb => hb.imp id fun h => by omega⟩
    · rw [Tm.erase, T.map, if_neg hk1, if_neg hk4]
      exact (map_leaf k n s p c l fv w h hk1 hk4).mono fun e w' ⟨bm, h1, h2, h3, h4, h5⟩ => ⟨bm, h1, h2, h3, h4, h5.mono fun b hb => .inr hb⟩


mutual
theorem T.map_varT : ∀ {t : T}, t.formed = true → T.map varT t = t
  | .mk k n s l, h => by
    rw [T.formed] at h
    rw [T.map]
    by_cases h1 : k = 1
    · subst h1
      simp at h
      rw [if_pos rfl, varT, h.1.2, h.2]
    · rw [if_neg h1] at h ⊢
      by_cases h4 : k = 4
      · subst h4
        simp at h
        rw [if_pos rfl, T.mapL_varT h.2]
      · rw [if_neg h4]
        by_cases h2 : k = 2
        · subst h2
          simp at h
          rw [h.2]
        · by_cases h3 : k = 3
          · subst h3
            simp at h
            rw [h.2]
          · simp [h2, h3, h4] at h
theorem T.mapL_varT : ∀ {l : List T}, T.formedL l = true → T.mapL varT l = l
  | [], _ => by rw [T.mapL]
  | x :: xs, h => by
    rw [T.formedL, Bool.and_eq_true] at h
    rw [T.mapL, T.map_varT h.1, T.mapL_varT h.2]
end

theorem map_calls {t : Tm} {fv : Value} {S : Nat → Prop} {f : Int → T} {w : World} (h : t.In w) (hf : t.erase.formed = true) (hm : MapFn fv S f w) :
    Calls Try.prog 88 #[t.val, fv] w (RetTm (fun b => S b ∨ w.heap.size ≤ b) (T.map f t.erase) w) := map_any _ t fv S f w (Nat.le_refl _) h hf hm

theorem mapFn_V (w : World) : MapFn (.func (.func 90) #[] #[]) (fun _ => False) varT w :=
  ⟨fun _ h => h.elim, 90, #[], rfl, fun n w => by kernel_rfl, fun n w _ hn => (v_calls n w hn).mono fun e w' ⟨b, h1, h2, h3, h4, h5⟩ => ⟨b, h1, h2, h3, h4, h5.mono fun b hb => .inr hb⟩⟩

set_option maxHeartbeats 400000 in
/-- term.Copy: the same term in new memory. -/
theorem copy_calls {t : Tm} {w : World} (h : t.In w) (hf : t.erase.formed = true) : Calls Try.prog 98 #[t.val] w (RetTm (w.heap.size ≤ ·) t.erase w) := by
  have H := Lib.hid h
  have Hf := Lib.hid hf
  clear h hf
  simp only [Tm.val]
  go_enter Try.func98, Try.ntmps98
  go_wp2_with fail
  refine (map_calls (t := t) (Tm.In_below (by go_grown) H.out) Hf.out (mapFn_V _)).mono ?_
  rw [T.map_varT Hf.out]
  rintro e w1 ⟨bm, hin, he, rfl, hb1, hon⟩
  obtain ⟨⟨y0, y1, y2, y3⟩, ⟨f0, f1, f2, f3⟩, hlt⟩ := (Blk4.gr (Blk4.new _ _ _ _ _) hb1).parts
  simp only [World.size_alloc] at y0 y1 y2 y3 f0 f1 f2 f3 hlt hon
  have g1 : Gr w w1 := below_step hb1 (by go_grown)
  have Hin := Lib.hid hin
  have Hon := Lib.hid hon
  have He := Lib.hid he
  clear hin hon he hb1
  obtain ⟨k', n', s', p', c', l'⟩ := bm
  simp only [Tm.val, Tm.k, Tm.n, Tm.s, Tm.p, Tm.c, Tm.l]
  go_wp2_with fail
  refine bodyPost_ret (v := (Tm.mk k' n' s' p' c' l').val) (by simp [results, Try.results98, go_sem, Tm.val, Tm.k, Tm.n, Tm.s, Tm.p, Tm.c, Tm.l, y0, y1, y2, y3]) rfl ⟨Tm.mk k' n' s' p' c' l', ?_, He.out, rfl, by go_grown, Hon.out.mono fun b hb => hb.elim (fun h => h.elim) fun h => by omega⟩
  exact in_after' Hin.out Hon.out fun b h1 h2 o => by
    have : b ≠ w.heap.size + 1 := by rcases h1 with h1 | h1; · exact h1.elim
                                     · omega
    rw [cell_set_ne this, cell_set_ne this, cell_set_ne this, cell_set_ne this]

end Go.Proofs.Yteonakicoomjkaa

namespace Go.Proofs.Yteonakicoomjkaa
open Go.RowKit

theorem formed_cases2 {t : T} (h : t.formed = true) : (∃ n, t = .mk 1 n [] [] ∧ 0 ≤ n ∧ n ≤ 1099511627776) ∨ (∃ n, t = .mk 2 n [] []) ∨ (∃ s, t = .mk 3 0 s [] ∧ s.length ≤ 100) ∨
    (∃ s l, t = .mk 4 0 s l ∧ s.length ≤ 100 ∧ 1 ≤ l.length ∧ l.length ≤ 50 ∧ T.formedL l = true) := by
  obtain ⟨k, n, s, l⟩ := t
  rw [T.formed] at h
  by_cases h1 : k = 1
  · subst h1
    simp at h
    exact .inl ⟨n, by rw [h.1.2, h.2], h.1.1.1, h.1.1.2⟩
  by_cases h2 : k = 2
  · subst h2
    simp at h
    exact .inr (.inl ⟨n, by rw [h.1, h.2]⟩)
  by_cases h3 : k = 3
  · subst h3
    simp at h
    exact .inr (.inr (.inl ⟨s, by rw [h.1.1, h.2], h.1.2⟩))
  by_cases h4 : k = 4
  · subst h4
    simp at h
    exact .inr (.inr (.inr ⟨s, l, by rw [h.1.1.1.1], h.1.1.1.2, h.1.1.2, h.1.2, h.2⟩))
  · simp [h1, h2, h3, h4] at h


/-- What a substitution makes of a variable. -/
def lookupT : List Bd → Int → T
  | [], n => varT n
  | x :: xs, n => if x.v = n then x.t.erase else lookupT xs n

theorem lookupT_drop (l : List Bd) (n : Int) (k : Nat) (hk : k < l.length) (h : l[k].v ≠ n) : lookupT (l.drop k) n = lookupT (l.drop (k + 1)) n := by
  rw [List.drop_eq_getElem_cons hk, lookupT, if_neg h]
theorem lookupT_here (l : List Bd) (n : Int) (k : Nat) (hk : k < l.length) (h : l[k].v = n) : lookupT (l.drop k) n = l[k].t.erase := by
  rw [List.drop_eq_getElem_cons hk, lookupT, if_pos h]

def RetFind (S : Nat → Prop) (t : T) (w : World) (e : Ending) (w' : World) : Prop :=
  ∃ (b : Tm) (x : Bool), b.In w' ∧ b.erase = t ∧ e = .returned (.tuple #[b.val, .bool x]) ∧ Gr w w' ∧ b.On S

set_option maxHeartbeats 2000000 in
set_option maxRecDepth 100000 in
theorem rfind_calls (S : Nat → Prop) (p : Option Addr) (c : Nat) (l : List Bd) (n : Int) (w : World) (hx : (Bds.mk p c l).In w) (hn : In64 n) (hS : ∀ b, S b → b < w.heap.size) (hO : ∀ y ∈ l, y.t.On S) :
    Calls Try.prog 45 #[.slice p l.length c, .int .i64 n] w (RetFind (fun b => S b ∨ w.heap.size ≤ b) (lookupT l n) w) := by
  have HX := Lib.hid hx
  have Hn := Lib.hid hn
  have HS := Lib.hid hS
  have HO := Lib.hid hO
  obtain ⟨hlc, ⟨hl64, hc⟩, _, _⟩ := hx
  simp only at hlc hl64 hc
  obtain ⟨hn1, hn2⟩ := hn
  generalize hr : lookupT l n = r
  have Hr := Lib.hid hr
  clear hr hS hO
  go_enter Try.func45, Try.ntmps45
  go_wp2_with fail
  go_loop [6] (fun i => ∃ k : Nat, k ≤ l.length ∧ i = .int .i64 k ∧ Hid (lookupT (l.drop k) n = r)) (fun i => l.length - (intOf i).toNat)
  case atStart => exact ⟨0, Nat.zero_le _, rfl, Hr.out⟩
  case round =>
    obtain ⟨k, hk, rfl, hpre⟩ := hrel
    by_cases hlt : k < l.length
    · obtain ⟨b, o, rfl⟩ := HX.out.ptr (by omega)
      obtain ⟨⟨c0, c1, c2, c3, c4⟩, hti, ⟨hv1, hv2⟩, hbl⟩ := HX.out.elem k hlt
      have Hti := Lib.hid hti
      have HyO := Lib.hid (HO.out _ (List.getElem_mem hlt))
      by_cases hv : l[k].v = n
      · have Hh : Hid (l[k].t.erase = r) := (lookupT_here l n k hlt hv).symm.trans hpre.out
        clear hti
        generalize hye : l[k] = y at *
        obtain ⟨yv, yt⟩ := y
        simp only at *
        have hvb : (yv == n) = true := by simp [hv]
        clear hv
        go_wp2_with fail
        refine bodyPost_ret (v := .tuple #[yt.val, .bool true]) (by simp (maxDischargeDepth := 9) [results, Try.results45, go_sem, Tm.val]) rfl ⟨yt, true, Tm.In_below (by go_grown) Hti.out, Hh.out, rfl, by go_grown, HyO.out.mono fun b hb => .inl hb⟩
      · have Hh : Hid (lookupT (l.drop (k + 1)) n = r) := (lookupT_drop l n k hlt hv).symm.trans hpre.out
        have hvb : (l[k].v == n) = false := beq_eq_false_iff_ne.2 hv
        clear hti hv
        generalize hye : l[k] = y at *
        go_wp2_with fail
        go_round
        case rel => exact ⟨k + 1, by omega, by go_num, Hh.out⟩
        case measure => simp [intOf]; omega
    · obtain rfl : k = l.length := by omega
      have Hh : Hid (varT n = r) := by
        show _ = _
        rw [← hpre.out, List.drop_length, lookupT]
      go_wp2_with fail
      refine (rV_calls n _ Hn.out).mono ?_
      rintro e w1 ⟨rfl, hb1⟩
      obtain ⟨⟨y0, y1, y2, y3⟩, ⟨f0, f1, f2, f3⟩, hlt1⟩ := (Blk4.gr (Blk4.new _ _ _ _ _) hb1).parts
      have g1 : Gr w w1 := below_step hb1 (by go_grown)
      clear hb1
      go_wp2_with fail
      refine bodyPost_ret (v := .tuple #[(varTm n).val, .bool false]) (by simp (maxDischargeDepth := 9) [results, Try.results45, go_sem, varTm, Tm.val, Tm.k, Tm.n, Tm.s, Tm.p, Tm.c, Tm.l, y0, y1, y2, y3]) rfl ⟨varTm n, false, varTm_in Hn.out _, by rw [varTm_erase, Hh.out], rfl, by go_grown, varTm_on n⟩

def applyOf (t : Tm) : Prop := ∀ (S : Nat → Prop) (p : Option Addr) (c : Nat) (l : List Bd) (w : World), t.In w → t.erase.formed = true → (Bds.mk p c l).In w → (∀ b, S b → b < w.heap.size) → (∀ y ∈ l, y.t.On S) →
  Calls Try.prog 40 #[t.val, .slice p l.length c] w (RetTm (fun b => S b ∨ w.heap.size ≤ b) (T.map (lookupT l) t.erase) w)

set_option maxHeartbeats 2000000 in
set_option maxRecDepth 100000 in
theorem apply_var (n : Int) (s : ByteArray) (p' : Option Addr) (c' : Nat) (l' : List Tm) : applyOf (.mk 1 n s p' c' l') := by
  intro S p c l w h hfm hx hS hO
  have HX := Lib.hid hx
  have HS := Lib.hid hS
  have HO := Lib.hid hO
  rw [Tm.In] at h
  obtain ⟨hk0, hn, hs, hlc, hc, hp, hIn⟩ := h
  have Hn := Lib.hid hn
  obtain ⟨hxl, ⟨hl64, hxc⟩, _, _⟩ := hx
  simp only at hxl hl64 hxc
  clear hp hIn hfm hS hO hn
  rw [Tm.erase, T.map, if_pos rfl]
  simp only [Tm.val, Tm.k, Tm.n, Tm.s, Tm.p, Tm.c, Tm.l]
  go_enter Try.func40, Try.ntmps40
  go_wp2_with fail
  refine (rfind_calls S p c l n _ (HX.out.mono (by go_grown)) Hn.out (fun b hb => by have := HS.out b hb; simp; omega) HO.out).mono ?_
  rintro e w1 ⟨bm, x, hin, he, rfl, hb1, hon⟩
  obtain ⟨⟨y0, y1, y2, y3⟩, ⟨f0, f1, f2, f3⟩, hlt⟩ := (Blk4.gr (Blk4.new _ _ _ _ _) hb1).parts
  simp only [World.size_alloc] at y0 y1 y2 y3 f0 f1 f2 f3 hlt hon
  have g1 : Gr w w1 := below_step hb1 (by go_grown)
  have Hin := Lib.hid hin
  have Hon := Lib.hid hon
  have He := Lib.hid he
  clear hin hon he hb1
  simp only [Tm.val]
  go_wp2_with fail
  refine bodyPost_ret (v := bm.val) (by simp (maxDischargeDepth := 9) [results, Try.results40, go_sem, Tm.val, hlt, y0, y1, y2, y3]) rfl ⟨bm, ?_, He.out, rfl, by go_grown, Hon.out.mono fun b hb => hb.imp id fun h => by omega⟩
  exact in_after' Hin.out Hon.out fun b h1 h2 o => by
    have h3 : b ≠ w.heap.size + 1 := by
      rcases h1 with h1 | h1
      · have := HS.out b h1; omega
      · omega
    rw [World.cell?_alloc_past _ _ _ (by simpa using h2), cell_set_ne h3, cell_set_ne h3, cell_set_ne h3, cell_set_ne h3]

set_option maxHeartbeats 4000000 in
set_option maxRecDepth 100000 in
theorem apply_comp (k0 n : Int) (s : ByteArray) (p' : Option Addr) (c' : Nat) (l' : List Tm) (hk1 : k0 ≠ 1) (hl50 : l'.length ≤ 50) (hfl : ∀ x ∈ l', x.erase.formed = true) (ih : ∀ x ∈ l', applyOf x)
    (S : Nat → Prop) (p : Option Addr) (c : Nat) (l : List Bd) (w : World) (h : (Tm.mk k0 n s p' c' l').In w) (hx : (Bds.mk p c l).In w) (hS : ∀ b, S b → b < w.heap.size) (hO : ∀ y ∈ l, y.t.On S) :
    Calls Try.prog 40 #[(Tm.mk k0 n s p' c' l').val, .slice p l.length c] w (RetTm (fun b => S b ∨ w.heap.size ≤ b) (.mk k0 n s.toList (T.mapL (lookupT l) (Tm.eraseL l'))) w) := by
  have HX := Lib.hid hx
  have HSl := Lib.hid h.sl
  have HS := Lib.hid hS
  have HO := Lib.hid hO
  rw [Tm.In] at h
  obtain ⟨hk0, hn, hs, hlc, hc, hp, hIn⟩ := h
  obtain ⟨hxl, ⟨hl64, hxc⟩, _, _⟩ := hx
  simp only at hxl hl64 hxc
  have Hih := Lib.hid ih
  have Hfl := Lib.hid hfl
  have Hs := Lib.hid hs
  have Hn := Lib.hid hn
  have Hk := Lib.hid hk0
  have hk1' : (k0 == 1) = false := beq_eq_false_iff_ne.2 hk1
  clear hp hIn ih hfl hS hO hk1
  simp only [Tm.val, Tm.k, Tm.n, Tm.s, Tm.p, Tm.c, Tm.l]
  go_enter Try.func40, Try.ntmps40
  go_wp2_with fail
  go_loopw [7, 8] (fun v i wr => ∃ k : Nat, k ≤ l'.length ∧ i = .int .i64 k ∧ Hid (∃ lm : List Tm, lm.length = k ∧ Tm.eraseL lm = T.mapL (lookupT l) (Tm.eraseL (l'.take k)) ∧ Built wr (w.heap.size + 1 + 1) S v lm) ∧
      Hid (Blk4 wr w.heap.size (.int .i64 k0) (.int .i64 n) (.string s) (.slice p' l'.length c') ∧ Blk4 wr (w.heap.size + 1) (.int .i64 0) (.int .i64 0) (.string ⟨#[]⟩) (.slice none 0 0)) ∧ Gr w wr ∧ w.heap.size + 1 + 1 ≤ wr.heap.size)
    (fun _ i _ => l'.length - (intOf i).toNat)
  case atStart => exact ⟨0, Nat.zero_le _, rfl, ⟨[], rfl, by simp [T.mapL, Tm.eraseL], Built.nil _ _ _⟩, ⟨Blk4.old (Blk4.new w _ _ _ _) _, by have := Blk4.new (w.alloc (.cells #[.int .i64 k0, .int .i64 n, .string s, .slice p' l'.length c'] 24)) (.int .i64 0) (.int .i64 0) (.string ⟨#[]⟩) (.slice none 0 0); simpa only [World.size_alloc] using this⟩, by go_grown, by simp⟩
  case round =>
    obtain ⟨k, hk, rfl, hlm, HBR, gr, hws⟩ := hrel
    obtain ⟨HB, HR⟩ := HBR.out
    replace HB := Lib.hid HB
    replace HR := Lib.hid HR
    obtain ⟨⟨b0, b1, b2, b3⟩, ⟨ff0, ff1, ff2, ff3⟩, hbs1⟩ := HB.out.parts
    by_cases hlt : k < l'.length
    · obtain ⟨b, o, rfl⟩ := HSl.out.ptr (by omega)
      obtain ⟨⟨c0, c1, c2, c3⟩, hxi, _⟩ := (HSl.out.mono gr).elem k hlt
      have Hx := Lib.hid hxi
      have hmem : l'[k] ∈ l' := List.getElem_mem hlt
      have Hix := Lib.hid (Hih.out _ hmem)
      have Hfx := Lib.hid (Hfl.out _ hmem)
      have Htk : Hid (T.mapL (lookupT l) (Tm.eraseL (l'.take (k + 1))) = T.mapL (lookupT l) (Tm.eraseL (l'.take k)) ++ [T.map (lookupT l) l'[k].erase]) := T.mapL_erase (lookupT l) l' k hlt
      clear hxi hmem
      generalize hxe : l'[k] = x at *
      go_wp2_with fail
      clear b0 b1 b2 b3 ff0 ff1 ff2 ff3
      refine (Hix.out S p c l _ (Tm.In_below (by go_grown) Hx.out) Hfx.out (HX.out.mono (by go_grown)) (fun b hb => Nat.lt_of_lt_of_le (HS.out b hb) gr.size) HO.out).mono ?_
      rintro e w2 ⟨xm, hin, he, rfl, hb2, hon⟩
      obtain ⟨lm, hl0, he0, hF⟩ := hlm.out
      have HF2 := Lib.hid (hF.gr hb2)
      have Hvl := Lib.hid hF.1.lt
      have hs2 := hb2.size
      have HB2 := Lib.hid (And.intro (HB.out.gr hb2) (HR.out.gr hb2))
      have Hl0 := Lib.hid hl0
      have He0 := Lib.hid he0
      have Hin := Lib.hid hin
      have Hon := Lib.hid hon
      have He := Lib.hid he
      have g2 : Gr w w2 := gr.trans hb2
      clear hF hl0 he0 hin hon he hb2 hlm
      obtain ⟨k', n', s', p2, c2, l2⟩ := xm
      simp only [Tm.val, Tm.k, Tm.n, Tm.s, Tm.p, Tm.c, Tm.l]
      go_wp2_with
        (at_builtin
         refine wpList_append_term rfl _ _ rfl rfl (w.heap.size + 1 + 1) S _ lm (.mk k' n' s' p2 c2 l2) w2.heap.size 1 rfl rfl (HF2.out.gr (by go_grown)) (by simp; omega) (Tm.In_below (by go_grown) Hin.out) (Hon.out.mono fun b hb => sep_own HS.out (by omega) Hvl.out hb hws) (by have := Hl0.out; omega) (by show _ = some (Value.int .i64 k'); go_cell) (by show _ = some (Value.int .i64 n'); go_cell) (by show _ = some (Value.string s'); go_cell) (by show _ = some (Value.slice p2 l2.length c2); go_cell) ?_
         intro v' w4 hbt hbel _)
      go_roundw
      case rel =>
        have hg4 : Below (w.heap.size + 1 + 1) w2 w4 := Below.trans (show Below (w.heap.size + 1 + 1) w2 _ by go_grown) hbel
        exact ⟨k + 1, by omega, by go_num, ⟨_, by rw [List.length_append, Hl0.out]; rfl, by rw [eraseL_append, He0.out, Htk.out, ← He.out]; simp [Tm.eraseL], hbt⟩, ⟨HB2.out.1.below hg4 (by omega), HB2.out.2.below hg4 (by omega)⟩, Below.trans g2 (hg4.mono (by omega)), by have := hg4.size; omega⟩
      case measure => simp [intOf]; omega
    · obtain rfl : k = l'.length := by omega
      obtain ⟨lm, hl0, he0, hF⟩ := hlm.out
      obtain ⟨⟨y0, y1, y2, y3⟩, ⟨f0, f1, f2, f3⟩, hbs2⟩ := HR.out.parts
      obtain ⟨pv, cv, rfl, hcv1, hcv2⟩ := hF.form
      have HF := Lib.hid hF
      have Hl0 := Lib.hid hl0
      have He0 := Lib.hid he0
      clear hF hl0 he0 hlm
      go_wp2_with fail
      have hsl := HF.out.sl (by have := Hl0.out; omega)
      refine bodyPost_ret (v := (Tm.mk k0 n s pv cv lm).val) (by simp [results, Try.results40, go_sem, Tm.val, Tm.k, Tm.n, Tm.s, Tm.p, Tm.c, Tm.l, y0, y1, y2, y3]) rfl ⟨_, ?_, ?_, rfl, by go_grown, ?_⟩
      · have hin : (Tm.mk k0 n s pv cv lm).In wr := by
          rw [Tm.In]
          exact ⟨Hk.out, Hn.out, Hs.out, hsl.2.1.1, hsl.2.1.2.1, hsl.2.1.2.2.1, hsl.2.1.2.2.2⟩
        have hon : (Tm.mk k0 n s pv cv lm).On (fun b => S b ∨ w.heap.size + 1 + 1 ≤ b) := by rw [Tm.On]; exact hsl.2.2
        exact in_after' hin hon fun b h1 h2 o => by
          have : b ≠ w.heap.size + 1 ∧ b ≠ w.heap.size := by
            rcases h1 with h1 | h1
            · have := HS.out b h1; omega
            · omega
          rw [cell_set_ne this.1, cell_set_ne this.1, cell_set_ne this.1, cell_set_ne this.1, cell_set_ne this.2]
      · rw [Tm.erase, He0.out, List.take_length]
      · rw [Tm.On]
        exact ⟨hsl.2.2.1.imp id fun ⟨b, o, h1, h2⟩ => ⟨b, o, h1, h2.imp id fun h => by omega⟩, hsl.2.2.2.mono fun b hb => hb.imp id fun h => by omega⟩

theorem apply_any (N : Nat) : ∀ (t : Tm), SizeOf.sizeOf t ≤ N → applyOf t := by
  induction N with
  | zero => intro t h; cases t; simp at h
  | succ N ih =>
    intro t hN
    obtain ⟨k0, n, s, p', c', l'⟩ := t
    by_cases hk : k0 = 1
    · subst hk; exact apply_var n s p' c' l'
    intro S p c l w h hfm hx hS hO
    have hih : ∀ x ∈ l', applyOf x := fun x hx => ih x (by have := Tm.sizeOf_mem hx k0 n s p' c'; omega)
    by_cases hk4 : k0 = 4
    · subst hk4
      obtain ⟨_, _, _, h50, hfl⟩ := formed_elem rfl hfm
      rw [Tm.erase, T.map, if_neg (by decide), if_pos rfl]
      exact apply_comp 4 n s p' c' l' (by decide) h50 hfl hih S p c l w h hx hS hO
    · have hl : l' = [] := by
        have h9 := Tm.eraseL_length l'
        rcases formed_cases2 hfm with ⟨m, he, _⟩ | ⟨m, he⟩ | ⟨s2, he, _⟩ | ⟨s2, l2, he, _⟩ <;> rw [Tm.erase] at he <;> injection he with e1 e2 e3 e4
        · rw [e4] at h9; exact List.eq_nil_of_length_eq_zero h9.symm
        · rw [e4] at h9; exact List.eq_nil_of_length_eq_zero h9.symm
        · rw [e4] at h9; exact List.eq_nil_of_length_eq_zero h9.symm
        · exact absurd e1 hk4
      subst hl
      have := apply_comp k0 n s p' c' [] hk (by simp) (by simp) hih S p c l w h hx hS hO
      rw [Tm.erase, T.map, if_neg hk, if_neg hk4]
      simpa [Tm.eraseL, T.mapL] using this

/-- hornref.Apply, of a term. -/
theorem rapply_calls {t : Tm} {x : Bds} {w : World} (h : t.In w) (hf : t.erase.formed = true) (hx : x.In w) : Calls Try.prog 40 #[t.val, x.val] w (RetTm (fun _ => True) (T.map (lookupT x.l) t.erase) w) :=
  (apply_any _ t (Nat.le_refl _) (· < w.heap.size) x.p x.c x.l w h hf hx (fun _ h => h) (fun y hy => Tm.In.on (hx.2.2.2 y hy).1)).mono fun _ _ ⟨b, h1, h2, h3, h4, h5⟩ => ⟨b, h1, h2, h3, h4, h5.mono fun _ _ => trivial⟩

end Go.Proofs.Yteonakicoomjkaa
