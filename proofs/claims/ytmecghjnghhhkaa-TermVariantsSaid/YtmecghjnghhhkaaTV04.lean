/-
  hornkeep.twice: what is answered is the caller's.
  term.Map with a function that keeps nothing: what it makes lies whole, in new memory.
-/
import Derived.Test.YtmecghjnghhhkaaTV03
import Derived.Test.YtmecghjnghhhkaaUO06
namespace Go.Proofs.Ytmecghjnghhhkaa
open Go.RowKit Go.Lib

mutual
/-- All Args of the term lie on whole blocks of their own length. -/
def Tm.Whole (w : World) : Tm → Prop
  | .mk _ _ _ p c l => ((l = [] ∧ p = none ∧ c = 0) ∨ (l ≠ [] ∧ ∃ (b : Nat) (cur : Array Value), p = some ⟨b, 0, none⟩ ∧ c = l.length ∧ w.heap[b]? = some (.cells cur 27) ∧ cur.size = l.length * 4)) ∧ Tm.WholeL w l
def Tm.WholeL (w : World) : List Tm → Prop
  | [] => True
  | x :: xs => Tm.Whole w x ∧ Tm.WholeL w xs
end
mutual
theorem Tm.Whole.same {w w' : World} {S : Nat → Prop} (hS : ∀ b, S b → w'.heap[b]? = w.heap[b]?) : ∀ {t : Tm}, t.On S → t.Whole w → t.Whole w'
  | .mk k n s p c l, ho, h => by
    rw [Tm.On] at ho
    rw [Tm.Whole] at h ⊢
    refine ⟨?_, Tm.WholeL.same hS ho.2 h.2⟩
    refine h.1.imp id ?_
    rintro ⟨hl, b, cur, hp, hc, hb, hn⟩
    rcases ho.1 with h1 | ⟨b', o, hp', hb'⟩
    · exact absurd h1 hl
    · rw [hp] at hp'
      cases hp'
      exact ⟨hl, b, cur, hp, hc, (hS b hb').trans hb, hn⟩
theorem Tm.WholeL.same {w w' : World} {S : Nat → Prop} (hS : ∀ b, S b → w'.heap[b]? = w.heap[b]?) : ∀ {l : List Tm}, Tm.OnL S l → Tm.WholeL w l → Tm.WholeL w' l
  | [], _, _ => by rw [Tm.WholeL]; trivial
  | x :: xs, ho, h => by
    rw [Tm.OnL] at ho
    rw [Tm.WholeL] at h ⊢
    exact ⟨Tm.Whole.same hS ho.1 h.1, Tm.WholeL.same hS ho.2 h.2⟩
end
theorem Tm.WholeL_mem {w : World} : ∀ {l : List Tm}, Tm.WholeL w l → ∀ x ∈ l, Tm.Whole w x
  | _ :: _, h, x, hx => by
    rw [Tm.WholeL] at h
    rcases List.mem_cons.1 hx with rfl | hx
    · exact h.1
    · exact Tm.WholeL_mem h.2 x hx
theorem Tm.WholeL_append {w : World} : ∀ {l l' : List Tm}, Tm.WholeL w l → Tm.WholeL w l' → Tm.WholeL w (l ++ l')
  | [], _, _, h => h
  | x :: xs, _, h, h' => by
    rw [Tm.WholeL] at h
    rw [List.cons_append, Tm.WholeL]
    exact ⟨h.1, Tm.WholeL_append h.2 h'⟩
theorem Tm.Whole.gr {w w' : World} {t : Tm} (h : t.Whole w) (hi : t.In w) (hg : Gr w w') : t.Whole w' :=
  Tm.Whole.same (S := (· < w.heap.size)) (fun b hb => hg.block b hb) hi.on h
theorem zero_whole (w : World) : zeroTm.Whole w := by rw [zeroTm, Tm.Whole, Tm.WholeL]; exact ⟨.inl ⟨rfl, rfl, rfl⟩, trivial⟩

/-- What lies whole on S may be written over. -/
theorem fit_of {S : Nat → Prop} {w : World} (N : Nat) : ∀ t : Tm, SizeOf.sizeOf t ≤ N → t.In w → t.Whole w → t.On S → Fit S w N t.p t.l.length t.c := by
  induction N with
  | zero => intro t h; cases t; simp at h
  | succ N ih =>
    intro t h hin hw hon
    obtain ⟨k, n, s, p, c, l⟩ := t
    have hsl := hin.sl
    rw [Tm.Whole] at hw
    rw [Tm.On] at hon
    rcases hw.1 with ⟨rfl, rfl, rfl⟩ | ⟨hl, b, cur, rfl, rfl, hb, hsz⟩
    · exact .inl ⟨rfl, rfl, rfl⟩
    · refine .inr ⟨b, cur, rfl, ?_, hb, hsz, rfl, hsl.2.1.1, fun i hi => ?_⟩
      · rcases hon.1 with h1 | ⟨b', o, hp', hb'⟩
        · exact absurd h1 hl
        · cases hp'; exact hb'
      · obtain ⟨⟨c0, c1, c2, c3⟩, hx, _⟩ := hsl.elem i hi
        have hmem : l[i] ∈ l := List.getElem_mem hi
        have hf := ih l[i] (by have := Tm.sizeOf_mem hmem k n s (some ⟨b, 0, none⟩) l.length; omega) hx (Tm.WholeL_mem hw.2 _ hmem) (Tm.OnL_mem hon.2 _ hmem)
        rw [Nat.zero_add, cell_of_row w b _ _ _ _ hb] at c0 c1 c2 c3
        exact ⟨_, _, _, _, _, _, c0, c1, c2, c3, hf⟩

/-- What a function that is asked twice must keep to. -/

def MakesNew (fv : Value) (u : T) (w0 : World) : Prop := ∃ (fid : FuncId) (cap : Array Value), fv = .func (.func fid) #[] cap ∧ (∀ w : World, (callFunc fid (#[] ++ cap)).run Try.prog w = .ok (.enter fid (#[] ++ cap)) w) ∧
  ∀ w : World, Gr w0 w → Calls Try.prog fid (#[] ++ cap) w fun e w' => ∃ x : Tm, e = .returned x.val ∧ x.In w' ∧ x.erase = u ∧ x.Whole w' ∧ x.On (w.heap.size ≤ ·) ∧ Gr w w'

set_option maxHeartbeats 4000000 in
set_option maxRecDepth 100000 in
theorem twice_calls (fv : Value) (u : T) (w : World) (hf : MakesNew fv u w) : Calls Try.prog 48 #[fv] w (Ret (.bool true) w) := by
  have hR : Hid (∀ b, true = b → ∀ w', Gr w w' → Ret (.bool true) w (.returned (.bool b)) w') := fun b hb w' hg => ⟨by rw [hb], hg⟩
  generalize hQ : Ret (.bool true) w = Q at hR ⊢
  clear hQ
  obtain ⟨fid, cap, rfl, hq, hcall⟩ := hf
  have Hcall := Lib.hid hcall
  clear hcall
  simp only [Array.empty_append] at hq Hcall
  go_enter Try.func48, Try.ntmps48
  try simp only [List.append_eq, List.cons_append, List.nil_append]
  go_upto_region 2 with (first
    | (refine (Hcall.out _ (Gr.rfl' _)).mono ?_; rintro e w1 ⟨x1, rfl, i1, _, wh1, o1, g1⟩; have V1 := Lib.hid (show x1.val = .agg #[.int .i64 x1.k, .int .i64 x1.n, .string x1.s, .slice x1.p x1.l.length x1.c] from rfl); rewrite [V1.out]; have G1 := Lib.hid g1; have Hsp := Lib.hid (spoilTerm_calls _ (fun b => w.heap.size ≤ b ∧ b < w1.heap.size) x1.k x1.n x1.s x1.p x1.l.length x1.c w1 (fun b hb => hb.2) (fit_of _ x1 (Nat.le_refl _) i1 wh1 (Tm.On.and o1 i1.on))); clear i1 wh1 o1 g1)
    | (go_at_call 28; refine Hsp.out.mono ?_; rintro e w2 ⟨rfl, hsp⟩; have gw0 : Gr w w2 := Below.trans G1.out (hsp.kp.below (B := w.heap.size) (fun b hb => hb.1) G1.out.size); have gw : Gr w w2 := Below.trans G1.out (hsp.kp.below (B := w.heap.size) (fun b hb => hb.1) G1.out.size); clear hsp Hsp G1 V1)
    | fail)
  go_upto_region 3 with (first
    | (refine (Hcall.out _ gw).mono ?_; rintro e w3 ⟨x2, rfl, i2, e2, wh2, o2, g3⟩; have V2 := Lib.hid (show x2.val = .agg #[.int .i64 x2.k, .int .i64 x2.n, .string x2.s, .slice x2.p x2.l.length x2.c] from rfl); rewrite [V2.out]; have I2 := Lib.hid i2; have E2 := Lib.hid e2; have W2 := Lib.hid wh2; have O2 := Lib.hid o2; replace gw := gw.trans g3; have hs3 := g3.size; clear i2 e2 wh2 o2 g3)
    | fail)
  have hN := Blk4.new w3 (.int .i64 x2.k) (.int .i64 x2.n) (.string x2.s) (.slice x2.p x2.l.length x2.c)
  have g4 : Gr w3 (w3.alloc (.cells #[.int .i64 x2.k, .int .i64 x2.n, .string x2.s, .slice x2.p x2.l.length x2.c] 27)) := by go_grown
  have hs4 : (w3.alloc (.cells #[.int .i64 x2.k, .int .i64 x2.n, .string x2.s, .slice x2.p x2.l.length x2.c] 27)).heap.size = w3.heap.size + 1 := World.size_alloc _ _
  generalize w3.alloc (.cells #[.int .i64 x2.k, .int .i64 x2.n, .string x2.s, .slice x2.p x2.l.length x2.c] 27) = w4 at *
  have HX := Lib.hid hN
  replace W2 := Lib.hid (W2.out.gr I2.out g4)
  have Ion := Lib.hid I2.out.on
  replace I2 := Lib.hid (Tm.In_below g4 I2.out)
  replace gw := gw.trans g4
  clear hN g4
  obtain ⟨⟨c0, c1, c2, c3⟩, _, _⟩ := HX.out.parts
  go_upto_region 4 with (first
    | (go_at_call 25; rewrite [← V2.out]; refine (own_calls I2.out).mono ?_; rintro e w5 ⟨y, rfl, iy, ey, oy, _, g5⟩; have VY := Lib.hid (show y.val = .agg #[.int .i64 y.k, .int .i64 y.n, .string y.s, .slice y.p y.l.length y.c] from rfl); rewrite [VY.out]; have IY := Lib.hid iy; have EY := Lib.hid (ey.trans E2.out); have OY := Lib.hid oy; replace W2 := Lib.hid (W2.out.gr I2.out g5); replace I2 := Lib.hid (Tm.In_below g5 I2.out); replace HX := Lib.hid (HX.out.gr g5); replace gw := gw.trans g5; have hs5 := g5.size; clear iy ey oy g5 c0 c1 c2 c3)
    | fail)
  have hN := Blk4.new w5 (.int .i64 y.k) (.int .i64 y.n) (.string y.s) (.slice y.p y.l.length y.c)
  have g6 : Gr w5 (w5.alloc (.cells #[.int .i64 y.k, .int .i64 y.n, .string y.s, .slice y.p y.l.length y.c] 27)) := by go_grown
  generalize w5.alloc (.cells #[.int .i64 y.k, .int .i64 y.n, .string y.s, .slice y.p y.l.length y.c] 27) = w6 at *
  have HY := Lib.hid hN
  replace W2 := Lib.hid (W2.out.gr I2.out g6)
  replace I2 := Lib.hid (Tm.In_below g6 I2.out)
  replace IY := Lib.hid (Tm.In_below g6 IY.out)
  replace HX := Lib.hid (HX.out.gr g6)
  have gw6 := gw.trans g6
  have hs6 := g6.size
  clear hN g6
  have Hsp := Lib.hid (spoilTerm_calls _ (fun b => w2.heap.size ≤ b ∧ b < w3.heap.size) x2.k x2.n x2.s x2.p x2.l.length x2.c w6 (fun b hb => by have := hb.2; omega) (fit_of _ x2 (Nat.le_refl _) I2.out W2.out (Tm.On.and O2.out Ion.out)))
  obtain ⟨⟨c0, c1, c2, c3⟩, _, _⟩ := HX.out.parts
  have hw2 := gw0.size
  go_upto_region 5 with (first
    | (go_at_call 28; refine Hsp.out.mono ?_; rintro e w7 ⟨rfl, hsp⟩; have gw7 : Gr w w7 := Below.trans gw6 (hsp.kp.below (B := w.heap.size) (fun b hb => by have := hb.1; omega) gw6.size); replace IY := Lib.hid (in_after' IY.out OY.out (W := w7) fun b h1 h2 o => World.cell?_of_block (hsp.kp.block b h2 (fun h => by have := h.2; omega))); replace HY := Lib.hid (HY.out.kp hsp.kp (fun h => by have := h.2; omega)); clear hsp Hsp c0 c1 c2 c3)
    | fail)
  obtain ⟨⟨c0, c1, c2, c3⟩, _, _⟩ := HY.out.parts
  have Hq := Lib.hid hq
  refine wp_region_rely [fx (.func (.func fid) #[] cap), tmIs (fun _ => True) u, fx y.val, fx (.bool true), fx (.bool true)]
    (by kernel_rfl) (by kernel_rfl) (by repeat (first | exact Stable.nil | refine Stable.fix ?_ | refine Stable.cons tmIs_stable ?_)) ?_ ?_
  · refine ⟨?_, ?a1, ?_, ?a3, ?_, trivial⟩
    all_goals
      intro a wr hg hold
      have h0 : a.tmps[0]?.getD undef = .func (.func fid) #[] cap := hold 0 rfl
      have h4 : a.tmps[4]?.getD undef = .pointer (some ⟨w5.heap.size, 0, none⟩) := hold 4 rfl
      clear hold
      have C0 := Gr.at hg c0
      have C1 := Gr.at hg c1
      have C2 := Gr.at hg c2
      have C3 := Gr.at hg c3
      clear c0 c1 c2 c3
      simp [predsImp, Region.binds, dstAt, fx]
      intros
      first
        | (rw [if_pos (by simp [*])]
           intro K hK)
        | (rename_i K hK)
      go_simp
    case a1 =>
      refine (Hcall.out _ (gw7.trans hg)).mono ?_
      rintro e w10 ⟨z, rfl, iz, ez, _, _, hg2⟩
      exact hK _ _ ⟨z, rfl, iz, ez, iz.on.mono fun _ _ => trivial⟩ hg2
    case a3 =>
      have hz : tmIs (fun _ => True) u (a.tmps[15]?.getD undef) wr := by assumption
      obtain ⟨z, ez, iz, jz, _⟩ := hz
      rw [ez]
      refine (same_calls (t := z) (u := y) iz (Tm.In_below hg IY.out)).mono ?_
      rw [jz, EY.out, (same_iff _ _).2 rfl]
      rintro e w10 ⟨rfl, hg2⟩
      exact hK _ _ rfl hg2
    all_goals exact hK _ _ rfl (Gr.rfl' _)
  · intro wr hg
    rintro _ rfl _ ⟨z, rfl, _⟩ _ rfl _ rfl _ rfl
    clear c0 c1 c2 c3
    simp only [finAll, Act.put, List.setIfInBounds_toArray, List.set_cons_succ, List.set_cons_zero]
    go_wp2_with fail
    exact hR.out _ rfl _ (gw7.trans hg)
end Go.Proofs.Ytmecghjnghhhkaa

namespace Go.Proofs.Ytmecghjnghhhkaa
open Go.RowKit

/-- A term in memory is handed back, that lies whole. -/
def RetTmW (S : Nat → Prop) (t : T) (w : World) (e : Ending) (w' : World) : Prop := ∃ b : Tm, b.In w' ∧ b.erase = t ∧ e = .returned b.val ∧ Gr w w' ∧ b.On S ∧ b.Whole w'
/-- A function value that may be called: what it makes of a variable, whatever has grown since. -/
def MapFnW (fv : Value) (f : Int → T) (w0 : World) : Prop :=
  ∃ (fid : FuncId) (cap : Array Value), fv = .func (.func fid) #[] cap ∧ (∀ (n : Int) (w : World), (callFunc fid (#[.int .i64 n] ++ cap)).run Try.prog w = .ok (.enter fid (#[.int .i64 n] ++ cap)) w) ∧
    ∀ (n : Int) (w : World), Gr w0 w → In64 n → Calls Try.prog fid (#[.int .i64 n] ++ cap) w (RetTmW (w.heap.size ≤ ·) (f n) w)
theorem MapFnW.gr {fv : Value} {f : Int → T} {w0 w1 : World} (h : MapFnW fv f w0) (hg : Gr w0 w1) : MapFnW fv f w1 := by
  obtain ⟨fid, cap, h1, h2, h3⟩ := h
  exact ⟨fid, cap, h1, h2, fun n w hw hn => h3 n w (hg.trans hw) hn⟩

set_option maxHeartbeats 2000000 in
set_option maxRecDepth 100000 in
theorem mapW_var (n : Int) (s : ByteArray) (p : Option Addr) (c : Nat) (l : List Tm) (fv : Value) (f : Int → T) (w : World) (h : (Tm.mk 1 n s p c l).In w) (hf : MapFnW fv f w) :
    Calls Try.prog 142 #[(Tm.mk 1 n s p c l).val, fv] w (RetTmW (w.heap.size ≤ ·) (f n) w) := by
  rw [Tm.In] at h
  obtain ⟨hk, hn, hs, hlc, hc, hp, hIn⟩ := h
  clear hp hIn
  obtain ⟨fid, cap, rfl, hq, hcall⟩ := hf
  have Hcall := Lib.hid hcall
  have Hn := Lib.hid hn
  clear hcall
  simp only [Tm.val, Tm.k, Tm.n, Tm.s, Tm.p, Tm.c, Tm.l]
  go_enter Try.func142, Try.ntmps142
  go_wp2_with fail
  refine (Hcall.out n _ (by go_grown) Hn.out).mono ?_
  rintro e w1 ⟨bm, hin, he, rfl, hb1, hon, hwh⟩
  obtain ⟨⟨y0, y1, y2, y3⟩, ⟨f0, f1, f2, f3⟩, hlt⟩ := (Blk4.gr (Blk4.new _ _ _ _ _) hb1).parts
  simp only [World.size_alloc] at y0 y1 y2 y3 f0 f1 f2 f3 hlt hon
  have g1 : Gr w w1 := below_step hb1 (by go_grown)
  have hs0 : w.heap.size + 1 < w1.heap.size := hlt
  have Hin := Lib.hid hin
  have Hon := Lib.hid hon
  have He := Lib.hid he
  have Hwh := Lib.hid hwh
  clear hin hon he hb1 hwh
  obtain ⟨k', n', s', p', c', l'⟩ := bm
  simp only [Tm.val, Tm.k, Tm.n, Tm.s, Tm.p, Tm.c, Tm.l]
  go_wp2_with fail
  refine bodyPost_ret (v := (Tm.mk k' n' s' p' c' l').val) (by simp [results, Try.results142, go_sem, Tm.val, Tm.k, Tm.n, Tm.s, Tm.p, Tm.c, Tm.l, y0, y1, y2, y3]) rfl ?_
  have hfin : ∀ W, Kp (fun b => b = w.heap.size + 1) w1 W → RetTmW (w.heap.size ≤ ·) (f n) w (.returned (Tm.mk k' n' s' p' c' l').val) W := fun W hK =>
    ⟨Tm.mk k' n' s' p' c' l', in_after' Hin.out Hon.out (fun b h1 h2 o => World.cell?_of_block (hK.block b h2 (by omega))), He.out, rfl, Below.trans g1 (hK.below (B := w.heap.size) (fun b hb => by omega) g1.size), Hon.out.mono fun b hb => by omega,
      Tm.Whole.same (fun b hb => hK.block b hb.2 (by have := hb.1; omega)) (Tm.On.and Hon.out Hin.out.on) Hwh.out⟩
  exact hfin _ (Kp.set4 rfl)

set_option maxHeartbeats 2000000 in
set_option maxRecDepth 100000 in
theorem mapW_leaf (k n : Int) (s : ByteArray) (p : Option Addr) (c : Nat) (l : List Tm) (fv : Value) (w : World) (h : (Tm.mk k n s p c l).In w) (hk1 : k ≠ 1) (hk4 : k ≠ 4) :
    Calls Try.prog 142 #[(Tm.mk k n s p c l).val, fv] w (RetTmW (w.heap.size ≤ ·) (.mk k n s.toList []) w) := by
  rw [Tm.In] at h
  obtain ⟨hk, hn, hs, hlc, hc, hp, hIn⟩ := h
  clear hp hIn
  have hk1' : (k == 1) = false := beq_eq_false_iff_ne.2 hk1
  have hk4' : (k == 4) = false := beq_eq_false_iff_ne.2 hk4
  have Hk := Lib.hid hk
  have Hn := Lib.hid hn
  have Hs := Lib.hid hs
  clear hk1 hk4 hk hn hs
  simp only [Tm.val, Tm.k, Tm.n, Tm.s, Tm.p, Tm.c, Tm.l]
  go_enter Try.func142, Try.ntmps142
  go_wp2_with fail
  refine bodyPost_ret (v := (Tm.mk k n s none 0 []).val) (by simp [results, Try.results142, go_sem, Tm.val, Tm.k, Tm.n, Tm.s, Tm.p, Tm.c, Tm.l]) rfl ⟨Tm.mk k n s none 0 [], ?_, by simp [Tm.erase, Tm.eraseL], rfl, by go_grown, ?_, ?_⟩
  · rw [Tm.In, Tm.InL]
    exact ⟨Hk.out, Hn.out, Hs.out, Nat.le_refl _, ⟨by simp, by omega⟩, .inl rfl, trivial⟩
  · rw [Tm.On, Tm.OnL]; exact ⟨.inl rfl, trivial⟩
  · rw [Tm.Whole, Tm.WholeL]; exact ⟨.inl ⟨rfl, rfl, rfl⟩, trivial⟩

set_option maxHeartbeats 4000000 in
set_option maxRecDepth 100000 in
theorem mapW_any (N : Nat) : ∀ (t : Tm) (fv : Value) (f : Int → T) (w : World), SizeOf.sizeOf t ≤ N → t.In w → t.erase.formed = true → MapFnW fv f w →
    Calls Try.prog 142 #[t.val, fv] w (RetTmW (w.heap.size ≤ ·) (T.map f t.erase) w) := by
  induction N with
  | zero => intro t fv f w h; cases t; simp at h
  | succ N ih =>
    intro t fv f w hN h hfm hf
    obtain ⟨k, n, s, p, c, l⟩ := t
    by_cases hk1 : k = 1
    · subst hk1
      rw [Tm.erase, T.map, if_pos rfl]
      exact mapW_var n s p c l fv f w h hf
    by_cases hk4 : k = 4
    · subst hk4
      obtain ⟨rfl, h100, hl1, hl50, hfl⟩ := formed_elem rfl hfm
      have hsz := fun x (hx : x ∈ l) => Tm.sizeOf_mem hx 4 0 s p c
      have HT := Lib.hid h
      have HSl := Lib.hid h.sl
      rw [Tm.In] at h
      obtain ⟨hk, hn, hs, hlc, hc, hp, hIn⟩ := h
      obtain ⟨b, o, rfl⟩ := HSl.out.ptr (by omega)
      have hbl : b < w.heap.size := Tm.row_lt (by rcases hp with rfl | ⟨b', o', he, hr⟩; · simp at hl1
                                                  · cases he; exact hr) (by rintro rfl; simp at hl1)
      obtain ⟨fid, cap, rfl, hq, hcall⟩ := hf
      have Hf : Hid (MapFnW (.func (.func fid) #[] cap) f w) := ⟨fid, cap, rfl, hq, hcall⟩
      have Hih := Lib.hid ih
      have Hsz := Lib.hid hsz
      have Hfl := Lib.hid hfl
      have Hs := Lib.hid hs
      clear hp hIn hcall hq ih hsz hfl hk hn hfm
      obtain ⟨i0, hi, hz0, hz1, hz2⟩ := info_parts infoTermM
      have Hi := Lib.hid hi
      clear hi
      rw [Tm.erase, T.map, if_neg (by decide), if_pos rfl]
      simp only [Tm.val, Tm.k, Tm.n, Tm.s, Tm.p, Tm.c, Tm.l]
      go_enter Try.func142, Try.ntmps142
      go_wp2_with
        (refine wpList_make_full _ rfl _ _ 25 rfl (w.heap.size) 27 i0 _ 4 Try.underlying25 Hi.out hz0 hz1 .i64 .i64 _ _ l.length rfl rfl rfl rfl (by rw [hz2]; omega) (by simp only [maxLen]; omega) (by simp; omega) ?_
         intro w1 hown hgrow
         have HF := fill_made (S := fun _ => False) hown
         have HA := (after_make hgrow).2
         obtain ⟨⟨b0, b1, b2, b3⟩, _, _⟩ := (after_make hgrow).1.parts
         clear hown hgrow)
      obtain ⟨HB, HR, g1⟩ := HA.out
      replace HB := Lib.hid HB
      replace HR := Lib.hid HR
      have hg2 : w.heap.size + 1 + 1 < w1.heap.size := HF.out.lt
      clear b0 b1 b2 b3 HA
      go_loopw [25] (fun i wr => ∃ k : Nat, k ≤ l.length ∧ i = .int .i64 k ∧ Hid (∃ lm : List Tm, lm.length = k ∧ Tm.eraseL lm = T.mapL f (Tm.eraseL (l.take k)) ∧ Filling wr (w.heap.size + 1 + 1) (fun _ => False) (w.heap.size + 1 + 1) l.length lm ∧ Tm.WholeL wr lm) ∧ Below (w.heap.size + 1 + 1) w1 wr)
        (fun i _ => l.length - (intOf i).toNat)
      case atStart => exact ⟨0, Nat.zero_le _, rfl, ⟨[], rfl, by simp [T.mapL, Tm.eraseL], HF.out, by rw [Tm.WholeL]; trivial⟩, Below.refl _ _⟩
      case round =>
        obtain ⟨k, hk, rfl, hlm, hb⟩ := hrel
        have hbs := hb.size
        have gr : Gr w wr := Below.trans g1 (hb.mono (by omega))
        have HB' : Hid _ := Lib.hid (HB.out.below hb (by omega))
        have HR' : Hid _ := Lib.hid (HR.out.below hb (by omega))
        by_cases hlt : k < l.length
        · obtain ⟨⟨c0, c1, c2, c3⟩, hx, _⟩ := (HSl.out.mono gr).elem k hlt
          have Hx := Lib.hid hx
          have hmem : l[k] ∈ l := List.getElem_mem hlt
          have Hz := Hsz.out _ hmem
          have Hfx := Lib.hid (Hfl.out _ hmem)
          have Htk : Hid (T.mapL f (Tm.eraseL (l.take (k + 1))) = T.mapL f (Tm.eraseL (l.take k)) ++ [T.map f l[k].erase]) := T.mapL_erase f l k hlt
          clear hx hmem
          generalize hxe : l[k] = x at *
          go_wp2_with fail
          refine (Hih.out x _ f _ (by omega) (Tm.In_below (by go_grown) Hx.out) Hfx.out (Hf.out.gr (by go_grown))).mono ?_
          rintro e w2 ⟨xm, hin, he, rfl, hb2, hon, hwh⟩
          obtain ⟨lm, hl0, he0, hF, hWL⟩ := hlm.out
          have hg12 : Gr wr w2 := below_step hb2 (by go_grown)
          have HWL := Lib.hid (Tm.WholeL.same (S := (· < wr.heap.size)) (fun b hb => hg12.block b hb) (hF.2.2.2.2.mono fun b hb => hb.2.1) hWL)
          have HLon := Lib.hid (hF.2.2.2.2.mono (S' := fun b => b < w2.heap.size ∧ b ≠ w.heap.size + 1 + 1) fun b hb => ⟨Nat.lt_of_lt_of_le hb.2.1 hg12.size, hb.2.2⟩)
          have Hwh := Lib.hid hwh
          have hF2 : Filling w2 (w.heap.size + 1 + 1) (fun _ => False) (w.heap.size + 1 + 1) l.length lm := Filling.gr (w := wr) hF (below_step hb2 (by go_grown))
          have HF2 := Lib.hid hF2
          have g2 : Below (w.heap.size + 1 + 1) w1 w2 := Below.trans hb ((show Gr wr w2 from below_step hb2 (by go_grown)).mono (by omega))
          obtain ⟨⟨q0, r0⟩, fr0⟩ := hF2.spot (j := k * 4) (by omega)
          obtain ⟨⟨q1, r1⟩, fr1⟩ := hF2.spot (j := k * 4 + 1) (by omega)
          obtain ⟨⟨q2, r2⟩, fr2⟩ := hF2.spot (j := k * 4 + 2) (by omega)
          obtain ⟨⟨q3, r3⟩, fr3⟩ := hF2.spot (j := k * 4 + 3) (by omega)
          have hs2 := hb2.size
          simp only [World.size_alloc] at hs2 hon
          have Hl0 := Lib.hid hl0
          have He0 := Lib.hid he0
          have Hin := Lib.hid hin
          have Hon := Lib.hid hon
          have He := Lib.hid he
          clear hF hF2 hl0 he0 hin hon he hb2 hlm hwh hWL hg12
          obtain ⟨k', n', s', p', c', l'⟩ := xm
          simp only [Tm.val, Tm.k, Tm.n, Tm.s, Tm.p, Tm.c, Tm.l]
          go_wp2_with fail
          go_roundw
          case rel =>
            refine ⟨k + 1, by omega, by go_num, ⟨lm ++ [.mk k' n' s' p' c' l'], by simp [Hl0.out], by rw [eraseL_append, He0.out, Htk.out]; simp [Tm.eraseL, He.out], ?_, ?_⟩, by go_grown⟩
            rotate_left
            · exact Tm.WholeL_append (Tm.WholeL.same (fun b hb => (Kp.set4 (C := fun x => x = w.heap.size + 1 + 1) rfl).block b hb.1 hb.2) HLon.out HWL.out)
                (by rw [Tm.WholeL, Tm.WholeL]; exact ⟨Tm.Whole.same (fun b hb => (Kp.set4 (C := fun x => x = w.heap.size + 1 + 1) rfl).block b hb.2 (by have := hb.1; omega)) (Tm.On.and Hon.out Hin.out.on) Hwh.out, trivial⟩)
            have := HF2.out.store (x := .mk k' n' s' p' c' l') (by rw [Hl0.out]; exact hlt) Hin.out (Hon.out.mono fun b hb => ?_)
            · rw [Hl0.out] at this
              simpa only [Tm.k, Tm.n, Tm.s, Tm.p, Tm.c, Tm.l] using this
            · exact ⟨.inr (by omega), by omega⟩
          case measure => simp [intOf]; omega
        · obtain rfl : k = l.length := by omega
          obtain ⟨lm, hl0, he0, hF, hWL⟩ := hlm.out
          have HWL := Lib.hid hWL
          have HLon := Lib.hid hF.2.2.2.2
          obtain ⟨⟨b0, b1, b2, b3⟩, ⟨e0, e1, e2, e3⟩, hbs1⟩ := HB'.out.parts
          obtain ⟨⟨y0, y1, y2, y3⟩, ⟨f0, f1, f2, f3⟩, hbs2⟩ := HR'.out.parts
          have HF := Lib.hid hF
          have Hl0 := Lib.hid hl0
          have He0 := Lib.hid he0
          clear hF hl0 he0 hlm hWL
          go_wp2_with fail
          refine bodyPost_ret (v := (Tm.mk 4 0 s (some ⟨w.heap.size + 1 + 1, 0, none⟩) l.length lm).val) (by simp [results, Try.results142, go_sem, Tm.val, Tm.k, Tm.n, Tm.s, Tm.p, Tm.c, Tm.l, Hl0.out, y0, y1, y2, y3]) rfl ?_
          have hsl := HF.out.sl Hl0.out (by omega)
          have hin : (Tm.mk 4 0 s (some ⟨w.heap.size + 1 + 1, 0, none⟩) l.length lm).In wr := compTm_in Hs.out hsl.1
          have hon : (Tm.mk 4 0 s (some ⟨w.heap.size + 1 + 1, 0, none⟩) l.length lm).On (fun b => w.heap.size + 1 + 1 ≤ b) := by
            rw [Tm.On]
            exact ⟨hsl.2.1.imp id fun ⟨b, o, h1, h2⟩ => ⟨b, o, h1, h2.elim (fun h => h.elim) id⟩, hsl.2.2.mono fun b hb => hb.elim (fun h => h.elim) id⟩
          have hwhole : (Tm.mk 4 0 s (some ⟨w.heap.size + 1 + 1, 0, none⟩) l.length lm).Whole wr := by
            obtain ⟨_, _, ⟨cur, hc1, hc2, _⟩, _⟩ := HF.out
            rw [Tm.Whole]
            exact ⟨.inr ⟨by rintro rfl; have := Hl0.out; simp at this; omega, _, cur, rfl, Hl0.out.symm, hc1, by rw [hc2, Hl0.out]⟩, HWL.out⟩
          have hfin : ∀ W, Kp (fun b => b = w.heap.size ∨ b = w.heap.size + 1) wr W → RetTmW (w.heap.size ≤ ·) (.mk 4 0 s.toList (T.mapL f (Tm.eraseL l))) w (.returned (Tm.mk 4 0 s (some ⟨w.heap.size + 1 + 1, 0, none⟩) l.length lm).val) W := fun W hK =>
            ⟨_, in_after' hin hon (fun b h1 h2 o => World.cell?_of_block (hK.block b h2 (by omega))), by rw [Tm.erase, He0.out, List.take_length], rfl, Below.trans gr (hK.below (B := w.heap.size) (fun b hb => by omega) gr.size), hon.mono fun b hb => by omega,
              Tm.Whole.same (fun b hb => hK.block b hb.2 (by have := hb.1; omega)) (Tm.On.and hon hin.on) hwhole⟩
          exact hfin _ ((Kp.set (C := fun b => b = w.heap.size ∨ b = w.heap.size + 1) (.inl rfl)).trans (Kp.set4 (C := fun b => b = w.heap.size ∨ b = w.heap.size + 1) (.inr rfl)))
    · rw [Tm.erase, T.map, if_neg hk1, if_neg hk4]
      exact mapW_leaf k n s p c l fv w h hk1 hk4


theorem mapW_calls {t : Tm} {fv : Value} {f : Int → T} {w : World} (h : t.In w) (hf : t.erase.formed = true) (hm : MapFnW fv f w) :
    Calls Try.prog 142 #[t.val, fv] w (RetTmW (w.heap.size ≤ ·) (T.map f t.erase) w) := mapW_any _ t fv f w (Nat.le_refl _) h hf hm
end Go.Proofs.Ytmecghjnghhhkaa
