/-
  term.Map with the function of term.Renamed.
-/
import Derived.Test.YtgaijgadeodoeaaV3
import Derived.Test.YtgaijgadeodoeaaF2
namespace Go.Proofs.Ytgaijgadeodoeaa
open Go.RowKit Go.Maps

theorem Kp.set4 {C : Nat → Prop} {W : World} {R o1 o2 o3 o4 : Nat} {a b c e : Value} (hC : C R) :
    Kp C W ((((W.setCell ⟨R, o1, none⟩ a).setCell ⟨R, o2, none⟩ b).setCell ⟨R, o3, none⟩ c).setCell ⟨R, o4, none⟩ e) := (((Kp.set hC).trans (Kp.set hC)).trans (Kp.set hC)).trans (Kp.set hC)
theorem Blk4.kp {C : Nat → Prop} {w w' : World} {b : Nat} {v0 v1 v2 v3 : Value} (h : Blk4 w b v0 v1 v2 v3) (hg : Kp C w w') (hb : ¬ C b) : Blk4 w' b v0 v1 v2 v3 := (hg.block b (Array.getElem?_eq_some_iff.1 h).1 hb).trans h

/-- What the function touches. -/
abbrev MF (M F : Nat) : Nat → Prop := fun b => b = M ∨ b = F

def RetRen (d : Int) (V : List Int) (t : T) (N M F : Nat) (w : World) (e : Ending) (w' : World) : Prop :=
  ∃ bm : Tm, bm.In w' ∧ bm.erase = T.map (swapF d (T.vars t V)) t ∧ e = .returned bm.val ∧ RenSt d (T.vars t V) N M F w' ∧ Kp (MF M F) w w' ∧ bm.On (w.heap.size ≤ ·)

theorem Filling.kp {C : Nat → Prop} {w w' : World} {B : Nat} {g n : Nat} {l : List Tm} (h : Filling w B (fun _ => False) g n l) (hg : Kp C w w') (hC : ∀ b, B ≤ b → ¬ C b) : Filling w' B (fun _ => False) g n l := by
  obtain ⟨h1, h2, ⟨cur, h3, h4⟩, h5, h6⟩ := h
  refine ⟨h1, h2, ⟨cur, (hg.block g (Array.getElem?_eq_some_iff.1 h3).1 (hC g h1)).trans h3, h4⟩, Tm.InL.same (fun b hb o => World.cell?_of_block (hg.block b hb.2.1 (hC b (hb.1.resolve_left id)))) h5 h6,
    h6.mono fun b hb => ⟨hb.1, Nat.lt_of_lt_of_le hb.2.1 hg.size, hb.2.2⟩⟩

theorem two_blocks (w : World) (v0 v1 v2 v3 u0 u1 u2 u3 : Value) :
    Hid (Blk4 ((w.alloc (.cells #[v0, v1, v2, v3] 28)).alloc (.cells #[u0, u1, u2, u3] 28)) w.heap.size v0 v1 v2 v3) ∧
    Hid (Blk4 ((w.alloc (.cells #[v0, v1, v2, v3] 28)).alloc (.cells #[u0, u1, u2, u3] 28)) (w.heap.size + 1) u0 u1 u2 u3) ∧
    Gr w ((w.alloc (.cells #[v0, v1, v2, v3] 28)).alloc (.cells #[u0, u1, u2, u3] 28)) := by
  have h1 := Blk4.new (w.alloc (.cells #[v0, v1, v2, v3] 28)) u0 u1 u2 u3
  rw [World.size_alloc] at h1
  exact ⟨Blk4.old (Blk4.new w _ _ _ _) _, h1, by go_grown⟩
theorem varTm_val (n : Int) : (varTm n).val = .agg #[.int .i64 1, .int .i64 n, .string ⟨#[]⟩, .slice none 0 0] := rfl

set_option maxHeartbeats 1000000 in
set_option maxRecDepth 100000 in
theorem mapRen_var (d : Int) (V : List Int) (n : Int) (s : ByteArray) (p : Option Addr) (c : Nat) (l : List Tm) (N M F : Nat) (w : World) (hn : 0 ≤ n ∧ n ≤ 1099511627776) (hd : 0 ≤ d ∧ d ≤ 1099511627777) (hV : VarsOk V) (h : RenSt d V N M F w) :
    Calls Try.prog 77 #[(Tm.mk 1 n s p c l).val, .func (.func 114) #[] #[.pointer (some ⟨N, 0, none⟩), .pointer (some ⟨F, 0, none⟩)]] w fun e w' =>
      e = .returned (varTm (d + ((withVar V n).idxOf n : Int))).val ∧ RenSt d (withVar V n) N M F w' ∧ Kp (MF M F) w w' := by
  generalize hQ : (fun (e : Ending) (w' : World) => e = .returned (varTm (d + ((withVar V n).idxOf n : Int))).val ∧ RenSt d (withVar V n) N M F w' ∧ Kp (MF M F) w w') = Q
  have hR : Hid (∀ w', RenSt d (withVar V n) N M F w' → Kp (MF M F) w w' → Q (.returned (varTm (d + ((withVar V n).idxOf n : Int))).val) w') := fun w' h1 h2 => by rw [← hQ]; exact ⟨rfl, h1, h2⟩
  clear hQ
  have hlen := hV.len
  obtain ⟨hlN, hlM, hlF⟩ := h.lts
  have hen : ∀ args w, (callFunc 114 args).run Try.prog w = .ok (.enter 114 args) w := fun args w => by kernel_rfl
  have hc := Lib.hid (fun W (hW : Gr w W) => rename1_calls d V N M F n W (h.gr hW) ⟨by omega, by omega⟩ ⟨⟨by omega, by omega⟩, by omega, by omega⟩ (by unfold maxLen; omega))
  clear h
  generalize d + ((withVar V n).idxOf n : Int) = m at *
  simp only [Tm.val, Tm.k, Tm.n, Tm.s, Tm.p, Tm.c, Tm.l]
  go_enter Try.func77, Try.ntmps77
  try simp only [List.append_eq, List.cons_append, List.nil_append]
  go_upto_region 1 with fail
  obtain ⟨HB, HR, gA⟩ := two_blocks w (.int .i64 1) (.int .i64 n) (.string s) (.slice p l.length c) (.int .i64 0) (.int .i64 0) (.string ⟨#[]⟩) (.slice none 0 0)
  generalize (w.alloc (.cells #[.int .i64 1, .int .i64 n, .string s, .slice p l.length c] 28)).alloc (.cells #[.int .i64 0, .int .i64 0, .string ⟨#[]⟩, .slice none 0 0] 28) = wA at *
  obtain ⟨⟨b0, b1, b2, b3⟩, _, _⟩ := HB.out.parts
  go_wp2_with (first
    | (go_at_call 114; refine (hc.out _ gA).mono ?_; rintro e w' ⟨rfl, hs, hk⟩; rewrite [varTm_val]; have HS := Lib.hid hs; have HK := Lib.hid hk; obtain ⟨⟨y0, y1, y2, y3⟩, ⟨f0, f1, f2, f3⟩, hlt⟩ := (HR.out.kp hk (by omega)).parts; clear hs hk b0 b1 b2 b3)
    | fail)
  refine bodyPost_ret (v := (varTm m).val) (by simp [results, Try.results77, go_sem, varTm, Tm.val, Tm.k, Tm.n, Tm.s, Tm.p, Tm.c, Tm.l, y0, y1, y2, y3]) rfl ?_
  exact hR.out _ (HS.out.kp (Kp.set4 (C := fun b => b = w.heap.size + 1) rfl) (by omega) (by omega) (by omega))
    ((((Kp.of_gr gA).trans (HK.out.mono (C' := fun b => MF M F b ∨ b = w.heap.size + 1) fun _ h => .inl h)).trans (Kp.set4 (.inr rfl))).weaken fun b hb hc => hc.resolve_right (by omega))
end Go.Proofs.Ytgaijgadeodoeaa
