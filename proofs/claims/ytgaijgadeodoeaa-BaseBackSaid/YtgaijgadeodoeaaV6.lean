/-
  term.Renamed
-/
import Derived.Test.YtgaijgadeodoeaaV5
import Derived.Deep.QuietTactic
import Derived.BigQuiet
namespace Go.Proofs.Ytgaijgadeodoeaa
open Go.RowKit Go.Maps

theorem RenSt.below {d : Int} {V : List Int} {N M F B : Nat} {w w' : World} (h : RenSt d V N M F w) (hg : Below B w w') (hN : N < B) (hM : M < B) (hF : F < B) : RenSt d V N M F w' :=
  ⟨(hg.block N hN).trans h.box, (hg.block F hF).trans h.next, h.map.same (hg.block M hM), h.apart⟩

theorem Built.kp {C : Nat → Prop} {w w' : World} {B : Nat} {v : Value} {l : List Tm} (h : Built w B (fun _ => False) v l) (hg : Kp C w w') (hC : ∀ b, B ≤ b → ¬ C b) : Built w' B (fun _ => False) v l := by
  obtain ⟨h1, h2, h3⟩ := h
  refine ⟨⟨h1.1, h1.2.imp id ?_⟩, Tm.InL.same (fun b hb o => World.cell?_of_block (hg.block b hb.2.1 (hC b (hb.1.resolve_left id)))) h2 h3, h3.mono fun b hb => ⟨hb.1, Nat.lt_of_lt_of_le hb.2.1 hg.size, hb.2.2⟩⟩
  rintro ⟨g, cap, cur, rfl, h5, h6, h7⟩
  exact ⟨g, cap, cur, rfl, h5, by rw [hg.block g (Array.getElem?_eq_some_iff.1 h6).1 (hC g h5)]; exact h6, h7⟩

theorem start_ren (w : World) (d : Int) : RenSt d [] (w.heap.size + 2) (w.heap.size + 1) w.heap.size (((w.alloc (.cells #[.int .i64 d] 2)).alloc (.map #[] 0)).alloc (.cells #[.map (some (w.heap.size + 1))] 97)) := by
  have s1 : (w.alloc (.cells #[.int .i64 d] 2)).heap.size = w.heap.size + 1 := World.size_alloc ..
  have s2 : ((w.alloc (.cells #[.int .i64 d] 2)).alloc (.map #[] 0)).heap.size = w.heap.size + 2 := by rw [World.size_alloc, s1]
  refine ⟨?_, ?_, ?_, ⟨by omega, by omega, by omega⟩⟩
  · rw [← s2]; exact heap_alloc_new _ _
  · rw [heap_alloc_old _ _ (by rw [s2]; omega), heap_alloc_old _ _ (by rw [s1]; omega), heap_alloc_new]
    simp
  · have h := NumMap.made (w.alloc (.cells #[.int .i64 d] 2)) d
    rw [s1] at h
    exact h.same (heap_alloc_old _ _ (by rw [s2]; omega))

/-- Terms are handed back, and the number behind. -/
def RetRens (d : Int) (ts : List T) (w : World) (e : Ending) (w' : World) : Prop :=
  ∃ (p : Option Addr) (c : Nat) (lm : List Tm), e = .returned (.tuple #[.slice p lm.length c, .int .i64 (d + ((T.varsL ts []).length : Int))]) ∧ Tm.Sl w' p c lm ∧ Tm.eraseL lm = T.mapL (swapF d (T.varsL ts [])) ts ∧ Gr w w' ∧ Tm.SlOn (w.heap.size ≤ ·) p lm

set_option maxHeartbeats 4000000 in
set_option maxRecDepth 100000 in
theorem renamed_calls (d : Int) (p : Option Addr) (c : Nat) (l : List Tm) (w : World) (h : Tm.Sl w p c l) (hf : ∀ x ∈ l, x.erase.formed = true) (hd : 0 ≤ d ∧ d ≤ 1099511627777) :
    Calls Try.prog 72 #[.int .i64 d, .slice p l.length c] w (RetRens d (Tm.eraseL l) w) := by
  have hl64 : l.length * 56 ≤ 140737488351232 := h.2.1.1
  have hlc : l.length ≤ c := h.1
  have hc64 : c ≤ 9223372036854775807 := h.2.1.2
  have HSl := Lib.hid h
  have Hf := Lib.hid hf
  have Hd := Lib.hid hd
  have HIn := Lib.hid h.2.2.2
  clear h hf
  generalize hQ : RetRens d (Tm.eraseL l) w = Q
  have HQ := Lib.hid hQ
  clear hQ
  go_enter Try.func72, Try.ntmps72
  try simp only [List.append_eq, List.cons_append, List.nil_append]
  have hmm := @run_makeMap Try.prog
  go_upto_region 2 with fail
  have hst : RenSt d [] (w.heap.size + 2) (w.heap.size + 1) w.heap.size (((w.alloc (.cells #[.int .i64 d] 2)).alloc (.map #[] 0)).alloc (.cells #[.map (some (w.heap.size + 1))] 97)) := start_ren w d
  have g1 : Gr w (((w.alloc (.cells #[.int .i64 d] 2)).alloc (.map #[] 0)).alloc (.cells #[.map (some (w.heap.size + 1))] 97)) := by go_grown
  have hsz : (((w.alloc (.cells #[.int .i64 d] 2)).alloc (.map #[] 0)).alloc (.cells #[.map (some (w.heap.size + 1))] 97)).heap.size = w.heap.size + 3 := by simp
  generalize (((w.alloc (.cells #[.int .i64 d] 2)).alloc (.map #[] 0)).alloc (.cells #[.map (some (w.heap.size + 1))] 97)) = wA at *
  have Hst := Lib.hid hst
  clear hst hmm
  go_wp2_with fail
  have hfun : Hid (Gr w wA) := g1
  go_loopg [7, 13] l.length (fun m v i wr => ∃ k : Nat, k ≤ l.length ∧ m = l.length - k ∧ i = .int .i64 k ∧
    Hid (∃ lm : List Tm, lm.length = k ∧ Tm.eraseL lm = T.mapL (swapF d (T.varsL (Tm.eraseL (l.take k)) [])) (Tm.eraseL (l.take k)) ∧ Built wr (w.heap.size + 3) (fun _ => False) v lm) ∧
    Hid (RenSt d (T.varsL (Tm.eraseL (l.take k)) []) (w.heap.size + 2) (w.heap.size + 1) w.heap.size wr) ∧ Hid (VarsOk (T.varsL (Tm.eraseL (l.take k)) [])) ∧ Gr w wr ∧ w.heap.size + 3 ≤ wr.heap.size)
  case atStart => exact ⟨0, Nat.zero_le _, rfl, rfl, ⟨[], rfl, by simp [T.mapL, Tm.eraseL], Built.nil _ _ _⟩, by rw [List.take_zero, Tm.eraseL, T.varsL]; exact Hst.out, by rw [List.take_zero, Tm.eraseL, T.varsL]; exact VarsOk.nil, g1, by omega⟩
  case round =>
    obtain ⟨k, hk, rfl, rfl, hlm, HSt, HVk, gr, hws⟩ := hrel
    by_cases hlt : k < l.length
    · obtain ⟨b, o, rfl⟩ := HSl.out.ptr (by omega)
      obtain ⟨⟨c0, c1, c2, c3⟩, _, _⟩ := (HSl.out.mono gr).elem k hlt
      have hmem : l[k] ∈ l := List.getElem_mem hlt
      have Hx := Lib.hid (Tm.InL_mem HIn.out _ hmem)
      have Hfx := Lib.hid (Hf.out _ hmem)
      have Hv1 := Lib.hid (varsL_step l k hlt [])
      have Hm1 := Lib.hid (mapL_step l Hf.out k hlt d [])
      clear hmem
      generalize l[k] = x at *
      go_upto_region 6 with fail
      have gE : Gr wr (wr.alloc (.cells #[.int .i64 x.k, .int .i64 x.n, .string x.s, .slice x.p x.l.length x.c] 28)) := by go_grown
      have hE := Blk4.new wr (.int .i64 x.k) (.int .i64 x.n) (.string x.s) (.slice x.p x.l.length x.c)
      have hszE : (wr.alloc (.cells #[.int .i64 x.k, .int .i64 x.n, .string x.s, .slice x.p x.l.length x.c] 28)).heap.size = wr.heap.size + 1 := by simp
      generalize wr.alloc (.cells #[.int .i64 x.k, .int .i64 x.n, .string x.s, .slice x.p x.l.length x.c] 28) = wE at *
      obtain ⟨⟨y0, y1, y2, y3⟩, _, _⟩ := hE.parts
      clear c0 c1 c2 c3 hE
      have Hxv := Lib.hid (show x.val = .agg #[.int .i64 x.k, .int .i64 x.n, .string x.s, .slice x.p x.l.length x.c] from rfl)
      go_wp2_with fail
      rw [← Hxv.out]
      refine (mapRen_any _ x d _ (w.heap.size + 2) (w.heap.size + 1) w.heap.size w wE (Nat.le_refl _) Hx.out Hfx.out (gr.trans gE) ⟨by omega, by omega⟩ Hd.out HVk.out (HSt.out.gr gE)).mono ?_
      rintro e w2 ⟨xm, hin, he, rfl, hst2, hk2, hon⟩
      obtain ⟨lm, hl0, he0, hF⟩ := hlm.out
      have hF2 : Built w2 (w.heap.size + 3) (fun _ => False) _ lm := (hF.gr gE).kp hk2 (fun b hb h => by rcases h with h | h <;> omega)
      have HF2 := Lib.hid hF2
      have Hvl := Lib.hid hF2.1.lt
      have hs2 := hk2.size
      have Hl0 := Lib.hid hl0
      have He0 := Lib.hid he0
      have Hin := Lib.hid hin
      have Hon := Lib.hid hon
      have He := Lib.hid he
      have Hst2 := Lib.hid hst2
      have g2 : Gr w w2 := Below.trans (gr.trans gE) (hk2.below (B := w.heap.size) (fun b hb => by rcases hb with hb | hb <;> omega) (by omega))
      have Hvf := Lib.hid hF.1.lt
      clear hF hF2 hl0 he0 hin hon he hst2 hk2 hlm y0 y1 y2 y3
      obtain ⟨k', n', s', p2, c2, l2⟩ := xm
      simp only [Tm.val, Tm.k, Tm.n, Tm.s, Tm.p, Tm.c, Tm.l]
      go_wp2_with
        (at_builtin
         refine wpList_append_term rfl _ _ rfl rfl (w.heap.size + 3) (fun _ => False) _ lm (.mk k' n' s' p2 c2 l2) w2.heap.size 1 rfl rfl (HF2.out.gr (by go_grown)) (by simp; omega) (Tm.In_below (by go_grown) Hin.out) (Hon.out.mono fun b hb => ⟨.inr (by omega), fun e => by have := Hvf.out b e; omega⟩) (by have := Hl0.out; omega) (by show _ = some (Value.int .i64 k'); go_cell) (by show _ = some (Value.int .i64 n'); go_cell) (by show _ = some (Value.string s'); go_cell) (by show _ = some (Value.slice p2 l2.length c2); go_cell) ?_
         intro v' w4 hbt hbel _)
      go_roundg (l.length - (k + 1))
      case measure => omega
      case rel =>
        have hg4 : Below (w.heap.size + 3) w2 w4 := Below.trans (show Below (w.heap.size + 3) w2 _ by go_grown) hbel
        exact ⟨k + 1, by omega, rfl, by go_num, ⟨_, by rw [List.length_append, Hl0.out]; rfl, by rw [eraseL_append, He0.out, Hm1.out, ← He.out]; simp [Tm.eraseL], hbt⟩, by rw [Hv1.out]; exact Hst2.out.below hg4 (by omega) (by omega) (by omega), by rw [Hv1.out]; exact HVk.out.vars _ Hfx.out, Below.trans g2 (hg4.mono (by omega)), by have := hg4.size; omega⟩
    · obtain rfl : k = l.length := by omega
      obtain ⟨lm, hl0, he0, hF⟩ := hlm.out
      obtain ⟨pv, cv, rfl, hcv1, hcv2⟩ := hF.form
      have HF := Lib.hid hF
      have Hl0 := Lib.hid hl0
      have He0 := Lib.hid he0
      have cF := cell_of_row wr w.heap.size 0 _ _ _ HSt.out.next
      simp only [List.getElem?_toArray, List.getElem?_cons_zero, List.take_length] at cF
      clear hF hl0 he0 hlm
      go_wp2_with fail
      go_quiet (fail)
      go_wp2_with fail
      rw [← HQ.out]
      have hsl := HF.out.sl (by rw [Hl0.out]; exact hl64)
      exact ⟨pv, cv, lm, rfl, hsl.2.1.mono ((Gr.rfl' wr).drewN _), by rw [He0.out, List.take_length], gr.drewN _, hsl.2.2.mono fun b hb => hb.elim (fun h => h.elim) fun h => by omega⟩
end Go.Proofs.Ytgaijgadeodoeaa
