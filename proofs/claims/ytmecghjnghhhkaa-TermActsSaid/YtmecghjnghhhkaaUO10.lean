/-
  term.Renamed
  Which names are reserved, which builtins are allowed, which codes may run: plain.
  Which names are reserved: base.Reserved, hornref.Reserved
-/
import Derived.Test.YtmecghjnghhhkaaUO09
import Derived.Deep.QuietTactic
import Derived.BigQuiet
import Derived.Test.YtmecghjnghhhkaaUO02
import Derived.Test.YtmecghjnghhhkaaUO03
import Derived.Test.YtmecghjnghhhkaaShelf
import Derived.Lib.Hide
import Derived.Deep.LoopGhost
import Derived.Deep.CutRange
namespace Go.Proofs.Ytmecghjnghhhkaa
open Go.RowKit Go.Maps

theorem RenSt.below {d : Int} {V : List Int} {N M F B : Nat} {w w' : World} (h : RenSt d V N M F w) (hg : Below B w w') (hN : N < B) (hM : M < B) (hF : F < B) : RenSt d V N M F w' :=
  ⟨(hg.block N hN).trans h.box, (hg.block F hF).trans h.next, h.map.same (hg.block M hM), h.apart⟩

theorem Built.kp {C : Nat → Prop} {w w' : World} {B : Nat} {v : Value} {l : List Tm} (h : Built w B (fun _ => False) v l) (hg : Kp C w w') (hC : ∀ b, B ≤ b → ¬ C b) : Built w' B (fun _ => False) v l := by
  obtain ⟨h1, h2, h3⟩ := h
  refine ⟨⟨h1.1, h1.2.imp id ?_⟩, Tm.InL.same (fun b hb o => World.cell?_of_block (hg.block b hb.2.1 (hC b (hb.1.resolve_left id)))) h2 h3, h3.mono fun b hb => ⟨hb.1, Nat.lt_of_lt_of_le hb.2.1 hg.size, hb.2.2⟩⟩
  rintro ⟨g, cap, cur, rfl, h5, h6, h7⟩
  exact ⟨g, cap, cur, rfl, h5, by rw [hg.block g (Array.getElem?_eq_some_iff.1 h6).1 (hC g h5)]; exact h6, h7⟩

theorem start_ren (w : World) (d : Int) : RenSt d [] (w.heap.size + 2) (w.heap.size + 1) w.heap.size (((w.alloc (.cells #[.int .i64 d] 2)).alloc (.map #[] 0)).alloc (.cells #[.map (some (w.heap.size + 1))] 190)) := by
  have s1 : (w.alloc (.cells #[.int .i64 d] 2)).heap.size = w.heap.size + 1 := World.size_alloc ..
  have s2 : ((w.alloc (.cells #[.int .i64 d] 2)).alloc (.map #[] 0)).heap.size = w.heap.size + 2 := by rw [World.size_alloc, s1]
  refine ⟨?_, ?_, ?_, ⟨by omega, by omega, by omega⟩⟩
  · rw [← s2]; exact heap_alloc_new _ _
  · rw [heap_alloc_old _ _ (by rw [s2]; omega), heap_alloc_old _ _ (by rw [s1]; omega), heap_alloc_new]
    simp
  · have h := NumMap.made (w.alloc (.cells #[.int .i64 d] 2)) d
    rw [s1] at h
    exact h.same (heap_alloc_old _ _ (by rw [s2]; omega))

/-- Terms are handed back, and the number behind. -/
def RetRens (d : Int) (ts : List T) (w : World) (e : Ending) (w' : World) : Prop :=
  ∃ (p : Option Addr) (c : Nat) (lm : List Tm), e = .returned (.tuple #[.slice p lm.length c, .int .i64 (d + ((T.varsL ts []).length : Int))]) ∧ Tm.Sl w' p c lm ∧ Tm.eraseL lm = T.mapL (swapF d (T.varsL ts [])) ts ∧ Gr w w' ∧ Tm.SlOn (w.heap.size ≤ ·) p lm

set_option maxHeartbeats 4000000 in
set_option maxRecDepth 100000 in
theorem renamed_calls (d : Int) (p : Option Addr) (c : Nat) (l : List Tm) (w : World) (h : Tm.Sl w p c l) (hf : ∀ x ∈ l, x.erase.formed = true) (hd : 0 ≤ d ∧ d ≤ 1099511627777) :
    Calls Try.prog 99 #[.int .i64 d, .slice p l.length c] w (RetRens d (Tm.eraseL l) w) := by
  have hl64 : l.length * 56 ≤ 140737488351232 := h.2.1.1
  have hlc : l.length ≤ c := h.1
  have hc64 : c ≤ 9223372036854775807 := h.2.1.2
  have HSl := Lib.hid h
  have Hf := Lib.hid hf
  have Hd := Lib.hid hd
  have HIn := Lib.hid h.2.2.2
  clear h hf
  generalize hQ : RetRens d (Tm.eraseL l) w = Q
  have HQ := Lib.hid hQ
  clear hQ
  go_enter Try.func99, Try.ntmps99
  try simp only [List.append_eq, List.cons_append, List.nil_append]
  have hmm := @run_makeMap Try.prog
  go_upto_region 2 with fail
  have hst : RenSt d [] (w.heap.size + 2) (w.heap.size + 1) w.heap.size (((w.alloc (.cells #[.int .i64 d] 2)).alloc (.map #[] 0)).alloc (.cells #[.map (some (w.heap.size + 1))] 190)) := start_ren w d
  have g1 : Gr w (((w.alloc (.cells #[.int .i64 d] 2)).alloc (.map #[] 0)).alloc (.cells #[.map (some (w.heap.size + 1))] 190)) := by go_grown
  have hsz : (((w.alloc (.cells #[.int .i64 d] 2)).alloc (.map #[] 0)).alloc (.cells #[.map (some (w.heap.size + 1))] 190)).heap.size = w.heap.size + 3 := by simp
  generalize (((w.alloc (.cells #[.int .i64 d] 2)).alloc (.map #[] 0)).alloc (.cells #[.map (some (w.heap.size + 1))] 190)) = wA at *
  have Hst := Lib.hid hst
  clear hst hmm
  go_wp2_with fail
  have hfun : Hid (Gr w wA) := g1
  go_loopg [7, 13] l.length (fun m v i wr => ∃ k : Nat, k ≤ l.length ∧ m = l.length - k ∧ i = .int .i64 k ∧
    Hid (∃ lm : List Tm, lm.length = k ∧ Tm.eraseL lm = T.mapL (swapF d (T.varsL (Tm.eraseL (l.take k)) [])) (Tm.eraseL (l.take k)) ∧ Built wr (w.heap.size + 3) (fun _ => False) v lm) ∧
    Hid (RenSt d (T.varsL (Tm.eraseL (l.take k)) []) (w.heap.size + 2) (w.heap.size + 1) w.heap.size wr) ∧ Hid (VarsOk (T.varsL (Tm.eraseL (l.take k)) [])) ∧ Gr w wr ∧ w.heap.size + 3 ≤ wr.heap.size)
  case atStart => exact ⟨0, Nat.zero_le _, rfl, rfl, ⟨[], rfl, by simp [T.mapL, Tm.eraseL], Built.nil _ _ _⟩, by rw [List.take_zero, Tm.eraseL, T.varsL]; exact Hst.out, by rw [List.take_zero, Tm.eraseL, T.varsL]; exact VarsOk.nil, g1, by omega⟩
  case round =>
    obtain ⟨k, hk, rfl, rfl, hlm, HSt, HVk, gr, hws⟩ := hrel
    by_cases hlt : k < l.length
    · obtain ⟨b, o, rfl⟩ := HSl.out.ptr (by omega)
      obtain ⟨⟨c0, c1, c2, c3⟩, _, _⟩ := (HSl.out.mono gr).elem k hlt
      have hmem : l[k] ∈ l := List.getElem_mem hlt
      have Hx := Lib.hid (Tm.InL_mem HIn.out _ hmem)
      have Hfx := Lib.hid (Hf.out _ hmem)
      have Hv1 := Lib.hid (varsL_step l k hlt [])
      have Hm1 := Lib.hid (mapL_step l Hf.out k hlt d [])
      clear hmem
      generalize l[k] = x at *
      go_upto_region 6 with fail
      have gE : Gr wr (wr.alloc (.cells #[.int .i64 x.k, .int .i64 x.n, .string x.s, .slice x.p x.l.length x.c] 27)) := by go_grown
      have hE := Blk4.new wr (.int .i64 x.k) (.int .i64 x.n) (.string x.s) (.slice x.p x.l.length x.c)
      have hszE : (wr.alloc (.cells #[.int .i64 x.k, .int .i64 x.n, .string x.s, .slice x.p x.l.length x.c] 27)).heap.size = wr.heap.size + 1 := by simp
      generalize wr.alloc (.cells #[.int .i64 x.k, .int .i64 x.n, .string x.s, .slice x.p x.l.length x.c] 27) = wE at *
      obtain ⟨⟨y0, y1, y2, y3⟩, _, _⟩ := hE.parts
      clear c0 c1 c2 c3 hE
      have Hxv := Lib.hid (show x.val = .agg #[.int .i64 x.k, .int .i64 x.n, .string x.s, .slice x.p x.l.length x.c] from rfl)
      go_wp2_with fail
      rw [← Hxv.out]
      refine (mapRen_any _ x d _ (w.heap.size + 2) (w.heap.size + 1) w.heap.size w wE (Nat.le_refl _) Hx.out Hfx.out (gr.trans gE) ⟨by omega, by omega⟩ Hd.out HVk.out (HSt.out.gr gE)).mono ?_
      rintro e w2 ⟨xm, hin, he, rfl, hst2, hk2, hon⟩
      obtain ⟨lm, hl0, he0, hF⟩ := hlm.out
      have hF2 : Built w2 (w.heap.size + 3) (fun _ => False) _ lm := (hF.gr gE).kp hk2 (fun b hb h => by rcases h with h | h <;> omega)
      have HF2 := Lib.hid hF2
      have Hvl := Lib.hid hF2.1.lt
      have hs2 := hk2.size
      have Hl0 := Lib.hid hl0
      have He0 := Lib.hid he0
      have Hin := Lib.hid hin
      have Hon := Lib.hid hon
      have He := Lib.hid he
      have Hst2 := Lib.hid hst2
      have g2 : Gr w w2 := Below.trans (gr.trans gE) (hk2.below (B := w.heap.size) (fun b hb => by rcases hb with hb | hb <;> omega) (by omega))
      have Hvf := Lib.hid hF.1.lt
      clear hF hF2 hl0 he0 hin hon he hst2 hk2 hlm y0 y1 y2 y3
      obtain ⟨k', n', s', p2, c2, l2⟩ := xm
      simp only [Tm.val, Tm.k, Tm.n, Tm.s, Tm.p, Tm.c, Tm.l]
      go_wp2_with
        (at_builtin
         refine wpList_append_term rfl _ _ rfl rfl (w.heap.size + 3) (fun _ => False) _ lm (.mk k' n' s' p2 c2 l2) w2.heap.size 1 rfl rfl (HF2.out.gr (by go_grown)) (by simp; omega) (Tm.In_below (by go_grown) Hin.out) (Hon.out.mono fun b hb => ⟨.inr (by omega), fun e => by have := Hvf.out b e; omega⟩) (by have := Hl0.out; omega) (by show _ = some (Value.int .i64 k'); go_cell) (by show _ = some (Value.int .i64 n'); go_cell) (by show _ = some (Value.string s'); go_cell) (by show _ = some (Value.slice p2 l2.length c2); go_cell) ?_
         intro v' w4 hbt hbel _)
      go_roundg (l.length - (k + 1))
      case measure => omega
      case rel =>
        have hg4 : Below (w.heap.size + 3) w2 w4 := Below.trans (show Below (w.heap.size + 3) w2 _ by go_grown) hbel
        exact ⟨k + 1, by omega, rfl, by go_num, ⟨_, by rw [List.length_append, Hl0.out]; rfl, by rw [eraseL_append, He0.out, Hm1.out, ← He.out]; simp [Tm.eraseL], hbt⟩, by rw [Hv1.out]; exact Hst2.out.below hg4 (by omega) (by omega) (by omega), by rw [Hv1.out]; exact HVk.out.vars _ Hfx.out, Below.trans g2 (hg4.mono (by omega)), by have := hg4.size; omega⟩
    · obtain rfl : k = l.length := by omega
      obtain ⟨lm, hl0, he0, hF⟩ := hlm.out
      obtain ⟨pv, cv, rfl, hcv1, hcv2⟩ := hF.form
      have HF := Lib.hid hF
      have Hl0 := Lib.hid hl0
      have He0 := Lib.hid he0
      have cF := cell_of_row wr w.heap.size 0 _ _ _ HSt.out.next
      simp only [List.getElem?_toArray, List.getElem?_cons_zero, List.take_length] at cF
      clear hF hl0 he0 hlm
      go_wp2_with fail
      go_quiet (fail)
      go_wp2_with fail
      rw [← HQ.out]
      have hsl := HF.out.sl (by rw [Hl0.out]; exact hl64)
      exact ⟨pv, cv, lm, rfl, hsl.2.1.mono ((Gr.rfl' wr).drewN _), by rw [He0.out, List.take_length], gr.drewN _, hsl.2.2.mono fun b hb => hb.elim (fun h => h.elim) fun h => by omega⟩
end Go.Proofs.Ytmecghjnghhhkaa

namespace Go.Proofs.Ytmecghjnghhhkaa
open Go.RowKit

def sCall : List UInt8 := [99, 97, 108, 108]
def resRow0 : List (List UInt8) := [[116, 114, 117, 101], [102, 97, 105, 108], [33], [110, 108]]
def resRow1 : List (List UInt8) := [[92, 43], [116, 104, 114, 111, 119], [118, 97, 114], [110, 111, 110, 118, 97, 114], [97, 116, 111, 109], [105, 110, 116, 101, 103, 101, 114], [97, 116, 111, 109, 105, 99], [99, 111, 109, 112, 111, 117, 110, 100], [99, 97, 108, 108, 97, 98, 108, 101], [103, 114, 111, 117, 110, 100], [97, 115, 115, 101, 114, 116, 122], [97, 115, 115, 101, 114, 116, 97], [114, 101, 116, 114, 97, 99, 116], [112, 114, 105, 110, 116], [58, 45]]
def resRow2 : List (List UInt8) := [[44], [59], [45, 62], [61], [92, 61], [61, 61], [92, 61, 61], [64, 60], [64, 62], [64, 61, 60], [64, 62, 61], [61, 46, 46], [99, 111, 112, 121, 95, 116, 101, 114, 109], [105, 115], [61, 58, 61], [61, 92, 61], [60], [62], [61, 60], [62, 61], [97, 116, 111, 109, 95, 108, 101, 110, 103, 116, 104], [97, 116, 111, 109, 95, 99, 104, 97, 114, 115], [108, 101, 110, 103, 116, 104], [115, 111, 114, 116], [58, 45], [45, 45, 62]]
def resRow3 : List (List UInt8) := [[99, 97, 116, 99, 104], [102, 105, 110, 100, 97, 108, 108], [99, 111, 109, 112, 97, 114, 101], [102, 117, 110, 99, 116, 111, 114], [97, 114, 103], [98, 101, 116, 119, 101, 101, 110]]
def proRow0 : List (List UInt8) := [[116, 114, 117, 101], [102, 97, 105, 108], [33], [110, 108]]
def proRow1 : List (List UInt8) := [[92, 43], [99, 97, 108, 108], [116, 104, 114, 111, 119], [118, 97, 114], [110, 111, 110, 118, 97, 114], [97, 116, 111, 109], [105, 110, 116, 101, 103, 101, 114], [97, 116, 111, 109, 105, 99], [99, 111, 109, 112, 111, 117, 110, 100], [99, 97, 108, 108, 97, 98, 108, 101], [103, 114, 111, 117, 110, 100], [97, 115, 115, 101, 114, 116, 122], [97, 115, 115, 101, 114, 116, 97], [114, 101, 116, 114, 97, 99, 116], [112, 114, 105, 110, 116], [58, 45]]
def proRow2 : List (List UInt8) := [[44], [59], [45, 62], [61], [92, 61], [61, 61], [92, 61, 61], [64, 60], [64, 62], [64, 61, 60], [64, 62, 61], [61, 46, 46], [99, 111, 112, 121, 95, 116, 101, 114, 109], [105, 115], [61, 58, 61], [61, 92, 61], [60], [62], [61, 60], [62, 61], [97, 116, 111, 109, 95, 108, 101, 110, 103, 116, 104], [97, 116, 111, 109, 95, 99, 104, 97, 114, 115], [108, 101, 110, 103, 116, 104], [115, 111, 114, 116], [58, 45], [45, 45, 62]]
def proRow3 : List (List UInt8) := [[99, 97, 116, 99, 104], [102, 105, 110, 100, 97, 108, 108], [99, 111, 109, 112, 97, 114, 101], [102, 117, 110, 99, 116, 111, 114], [97, 114, 103], [98, 101, 116, 119, 101, 101, 110]]
def notAllowed : List (List UInt8) := [[116, 114, 117, 101], [102, 97, 105, 108], [33], [44], [59], [45, 62], [92, 43], [99, 97, 108, 108], [99, 97, 116, 99, 104], [102, 105, 110, 100, 97, 108, 108], [98, 101, 116, 119, 101, 101, 110], [97, 115, 115, 101, 114, 116, 122], [97, 115, 115, 101, 114, 116, 97], [114, 101, 116, 114, 97, 99, 116], [58, 45], [45, 45, 62]]
def resRow : Nat → List (List UInt8)
  | 0 => resRow0
  | 1 => resRow1
  | 2 => resRow2
  | 3 => resRow3
  | _ => []

/-- Is a name with so many arguments reserved? -/
def reserved (s : List UInt8) (n : Int) : Bool :=
  if s = sCall then decide (1 ≤ n) && decide (n ≤ 8) else if n < 0 ∨ 3 < n then false else decide (s ∈ resRow n.toNat)

theorem reserved_call (n : Int) : reserved sCall n = (decide (1 ≤ n) && decide (n ≤ 8)) := by rw [reserved, if_pos rfl]
theorem reserved_out {s : List UInt8} {n : Int} (hs : s ≠ sCall) (hn : n < 0 ∨ 3 < n) : reserved s n = false := by rw [reserved, if_neg hs, if_pos hn]
theorem reserved_in {s : List UInt8} {n : Int} (hs : s ≠ sCall) (h0 : 0 ≤ n) (h3 : n ≤ 3) : reserved s n = decide (s ∈ resRow n.toNat) := by rw [reserved, if_neg hs, if_neg (by omega)]

/-- The program's own lists say the same. -/
theorem pro_0 (s : List UInt8) : reserved s 0 = decide (s ∈ proRow0) := by
  by_cases hs : s = sCall
  · subst hs; rfl
  · rw [reserved_in hs (by omega) (by omega)]; rfl
theorem pro_1 (s : List UInt8) : reserved s 1 = decide (s ∈ proRow1) := by
  by_cases hs : s = sCall
  · subst hs; rfl
  · rw [reserved_in hs (by omega) (by omega)]
    rw [decide_eq_decide]
    simp only [resRow, resRow1, proRow1, Int.toNat_one, List.mem_cons, List.mem_nil_iff, or_false]
    simp only [sCall] at hs
    simp [hs]
theorem pro_2 (s : List UInt8) : reserved s 2 = (decide (s = sCall) || decide (s ∈ proRow2)) := by
  by_cases hs : s = sCall
  · subst hs; rfl
  · rw [reserved_in hs (by omega) (by omega), decide_eq_false hs]; rfl
theorem pro_3 (s : List UInt8) : reserved s 3 = (decide (s = sCall) || decide (s ∈ proRow3)) := by
  by_cases hs : s = sCall
  · subst hs; rfl
  · rw [reserved_in hs (by omega) (by omega), decide_eq_false hs]; rfl
theorem pro_x (s : List UInt8) {n : Int} (h0 : n ≠ 0) (h1 : n ≠ 1) (h2 : n ≠ 2) (h3 : n ≠ 3) : reserved s n = (decide (s = sCall) && decide (1 ≤ n) && decide (n ≤ 8)) := by
  by_cases hs : s = sCall
  · subst hs; rw [reserved_call]; simp
  · rw [reserved_out hs (by omega), decide_eq_false hs]; rfl

/-- Is a builtin allowed in code? -/
def allowed (s : List UInt8) (n : Int) : Bool := if s ∈ notAllowed then false else reserved s n
def sThrow : List UInt8 := [116, 104, 114, 111, 119]
theorem allowed_throw (n : Int) : allowed sThrow n = decide (n = 1) := by
  rw [allowed, if_neg (by decide)]
  by_cases h : n < 0 ∨ 3 < n
  · rw [reserved_out (by decide) h, decide_eq_false (by omega)]
  · rw [reserved_in (by decide) (by omega) (by omega)]
    have : n = 0 ∨ n = 1 ∨ n = 2 ∨ n = 3 := by omega
    rcases this with rfl | rfl | rfl | rfl <;> decide
theorem allowed_not {s : List UInt8} (n : Int) (h : s ∈ notAllowed) : allowed s n = false := by rw [allowed, if_pos h]
theorem allowed_res {s : List UInt8} (n : Int) (h : s ∉ notAllowed) : allowed s n = reserved s n := by rw [allowed, if_neg h]

/-- A constant, an instruction, an entry. -/
structure Cn where
  k : Int
  s : ByteArray
  n : Int
structure Ins where
  op : Int
  a : Int
  b : Int
  c : Cn
structure Ent where
  s : ByteArray
  n : Int
  at_ : Int

def insRows : List (List UInt8) := [[], [97, 115, 45], [97, 115, 45], [97, 45, 107], [97, 45, 99], [115, 45, 45], [115, 45, 45], [45, 45, 107], [45, 45, 99], [110, 45, 45], [97, 115, 45], [97, 115, 45], [97, 45, 107], [97, 45, 99], [45, 45, 113], [45, 45, 113], [45, 45, 45], [45, 45, 45], [112, 45, 45], [112, 45, 45], [115, 45, 45], [115, 45, 45], [115, 45, 45], [45, 45, 98], [112, 45, 107], [112, 45, 99]]
/-- Which fields an instruction has. -/
def rowOf (op : Int) : List UInt8 := if 1 ≤ op ∧ op < 26 then insRows.getD op.toNat [] else []

def numOk (c : UInt8) (n size : Int) : Bool :=
  if c = 97 then decide (0 ≤ n) && decide (n < 50)
  else if c = 115 then decide (0 ≤ n) && decide (n < 200)
  else if c = 112 then decide (0 ≤ n) && decide (n < size)
  else if c = 110 then decide (1 ≤ n) && decide (n ≤ 50)
  else decide (n = 0)

def counted (x : Cn) (least : Int) : Bool := decide (x.k = 4) && decide ((x.s.size : Int) ≤ 100) && decide (least ≤ x.n) && decide (x.n ≤ 50)
def constant (x : Cn) : Bool := (decide (x.k = 3) && decide (x.n = 0) && decide ((x.s.size : Int) ≤ 100)) || (decide (x.k = 2) && decide (x.s.toList = []))
def conOk (c : UInt8) (x : Cn) : Bool :=
  if c = 107 then constant x
  else if c = 99 then counted x 1
  else if c = 113 then counted x 0
  else if c = 98 then counted x 0 && allowed x.s.toList x.n
  else decide (x.k = 0) && decide (x.s.toList = []) && decide (x.n = 0)

/-- May an instruction be, in code of so many? -/
def insOk (x : Ins) (size : Int) : Bool := match rowOf x.op with
  | [p, q, r] => numOk p x.a size && numOk q x.b size && conOk r x.c
  | _ => false

def entBad (x : Ent) (size : Int) : Bool :=
  decide (x.at_ < 0) || decide (size ≤ x.at_) || decide (x.n < 0) || decide (50 < x.n) || decide (100 < (x.s.size : Int)) || reserved x.s.toList x.n
def entSame (x y : Ent) : Bool := decide (x.s.toList = y.s.toList) && decide (x.n = y.n)
/-- Are the first k entries right? -/
def entsTo (l : List Ent) (size : Int) : Nat → Bool
  | 0 => true
  | k + 1 => entsTo l size k && match l[k]? with
    | none => true
    | some x => !entBad x size && !(l.take k).any (entSame · x)

theorem entsTo_at {l : List Ent} {size : Int} {k : Nat} {y : Ent} (hy : l[k]? = some y) : entsTo l size (k + 1) = (entsTo l size k && (!entBad y size && !(l.take k).any (entSame · y))) := by rw [entsTo, hy]
theorem entsTo_le {l : List Ent} {size : Int} {j k : Nat} (h : entsTo l size j = false) (hjk : j ≤ k) : entsTo l size k = false := by
  induction k with
  | zero => obtain rfl : j = 0 := by omega
            exact h
  | succ k ih =>
    by_cases hj : j = k + 1
    · exact hj ▸ h
    · rw [entsTo, ih (by omega)]; rfl

def lastOk (op : Int) : Bool := decide (op = 15) || decide (op = 16) || decide (op = 17) || decide (op = 19)

/-- P21: what is said of a code. -/
def codeErr (l : List Ins) (m : List Ent) (q : Int) : Int :=
  if 100000 < l.length then 9
  else if l.length = 0 ∨ q < 0 ∨ (l.length : Int) ≤ q then 10
  else if l.all (insOk · l.length) then (if lastOk ((l.getLast?.map (·.op)).getD 0) && entsTo m l.length m.length then 0 else 10)
  else 10

theorem codeErr_long {l : List Ins} {m : List Ent} {q : Int} (h : 100000 < l.length) : codeErr l m q = 9 := by rw [codeErr, if_pos h]
theorem codeErr_query {l : List Ins} {m : List Ent} {q : Int} (h : ¬ 100000 < l.length) (h2 : l.length = 0 ∨ q < 0 ∨ (l.length : Int) ≤ q) : codeErr l m q = 10 := by rw [codeErr, if_neg h, if_pos h2]
theorem codeErr_ins {l : List Ins} {m : List Ent} {q : Int} (h : ¬ 100000 < l.length) (h2 : l.all (insOk · l.length) = false) : codeErr l m q = 10 := by
  rw [codeErr, if_neg h, h2]
  split <;> rfl
theorem codeErr_last {l : List Ins} {m : List Ent} {q : Int} {x : Ins} (h : ¬ 100000 < l.length) (hx : l[l.length - 1]? = some x) (h2 : lastOk x.op = false) : codeErr l m q = 10 := by
  rw [codeErr, if_neg h, List.getLast?_eq_getElem?, hx]
  simp only [Option.map_some, Option.getD_some, h2, Bool.false_and]
  split
  · rfl
  · split <;> rfl
theorem codeErr_ents {l : List Ins} {m : List Ent} {q : Int} (h : ¬ 100000 < l.length) (h2 : entsTo m l.length m.length = false) : codeErr l m q = 10 := by
  rw [codeErr, if_neg h, h2, Bool.and_false]
  split
  · rfl
  · split <;> rfl
theorem codeErr_fine {l : List Ins} {m : List Ent} {q : Int} {x : Ins} (h : ¬ 100000 < l.length) (h1 : ¬ (l.length = 0 ∨ q < 0 ∨ (l.length : Int) ≤ q)) (h2 : l.all (insOk · l.length) = true) (hx : l[l.length - 1]? = some x) (h3 : lastOk x.op = true)
    (h4 : entsTo m l.length m.length = true) : codeErr l m q = 0 := by
  rw [codeErr, if_neg h, if_neg h1, if_pos h2, List.getLast?_eq_getElem?, hx, h4]
  simp only [Option.map_some, Option.getD_some, h3]
  rfl
end Go.Proofs.Ytmecghjnghhhkaa

namespace Go.Proofs.Ytmecghjnghhhkaa
open Go.RowKit

def blank1 : ByteArray := ⟨#[32]⟩
def proB0 : List ByteArray := [⟨#[116, 114, 117, 101]⟩, ⟨#[102, 97, 105, 108]⟩, ⟨#[33]⟩, ⟨#[110, 108]⟩]
def proB1 : List ByteArray := [⟨#[92, 43]⟩, ⟨#[99, 97, 108, 108]⟩, ⟨#[116, 104, 114, 111, 119]⟩, ⟨#[118, 97, 114]⟩, ⟨#[110, 111, 110, 118, 97, 114]⟩, ⟨#[97, 116, 111, 109]⟩, ⟨#[105, 110, 116, 101, 103, 101, 114]⟩, ⟨#[97, 116, 111, 109, 105, 99]⟩, ⟨#[99, 111, 109, 112, 111, 117, 110, 100]⟩, ⟨#[99, 97, 108, 108, 97, 98, 108, 101]⟩, ⟨#[103, 114, 111, 117, 110, 100]⟩, ⟨#[97, 115, 115, 101, 114, 116, 122]⟩, ⟨#[97, 115, 115, 101, 114, 116, 97]⟩, ⟨#[114, 101, 116, 114, 97, 99, 116]⟩, ⟨#[112, 114, 105, 110, 116]⟩, ⟨#[58, 45]⟩]
def proB2 : List ByteArray := [⟨#[44]⟩, ⟨#[59]⟩, ⟨#[45, 62]⟩, ⟨#[61]⟩, ⟨#[92, 61]⟩, ⟨#[61, 61]⟩, ⟨#[92, 61, 61]⟩, ⟨#[64, 60]⟩, ⟨#[64, 62]⟩, ⟨#[64, 61, 60]⟩, ⟨#[64, 62, 61]⟩, ⟨#[61, 46, 46]⟩, ⟨#[99, 111, 112, 121, 95, 116, 101, 114, 109]⟩, ⟨#[105, 115]⟩, ⟨#[61, 58, 61]⟩, ⟨#[61, 92, 61]⟩, ⟨#[60]⟩, ⟨#[62]⟩, ⟨#[61, 60]⟩, ⟨#[62, 61]⟩, ⟨#[97, 116, 111, 109, 95, 108, 101, 110, 103, 116, 104]⟩, ⟨#[97, 116, 111, 109, 95, 99, 104, 97, 114, 115]⟩, ⟨#[108, 101, 110, 103, 116, 104]⟩, ⟨#[115, 111, 114, 116]⟩, ⟨#[58, 45]⟩, ⟨#[45, 45, 62]⟩]
def proB3 : List ByteArray := [⟨#[99, 97, 116, 99, 104]⟩, ⟨#[102, 105, 110, 100, 97, 108, 108]⟩, ⟨#[99, 111, 109, 112, 97, 114, 101]⟩, ⟨#[102, 117, 110, 99, 116, 111, 114]⟩, ⟨#[97, 114, 103]⟩, ⟨#[98, 101, 116, 119, 101, 101, 110]⟩]
def resB0 : List ByteArray := [⟨#[116, 114, 117, 101]⟩, ⟨#[102, 97, 105, 108]⟩, ⟨#[33]⟩, ⟨#[110, 108]⟩]
def resB1 : List ByteArray := [⟨#[92, 43]⟩, ⟨#[116, 104, 114, 111, 119]⟩, ⟨#[118, 97, 114]⟩, ⟨#[110, 111, 110, 118, 97, 114]⟩, ⟨#[97, 116, 111, 109]⟩, ⟨#[105, 110, 116, 101, 103, 101, 114]⟩, ⟨#[97, 116, 111, 109, 105, 99]⟩, ⟨#[99, 111, 109, 112, 111, 117, 110, 100]⟩, ⟨#[99, 97, 108, 108, 97, 98, 108, 101]⟩, ⟨#[103, 114, 111, 117, 110, 100]⟩, ⟨#[97, 115, 115, 101, 114, 116, 122]⟩, ⟨#[97, 115, 115, 101, 114, 116, 97]⟩, ⟨#[114, 101, 116, 114, 97, 99, 116]⟩, ⟨#[112, 114, 105, 110, 116]⟩, ⟨#[58, 45]⟩]
def resB2 : List ByteArray := [⟨#[44]⟩, ⟨#[59]⟩, ⟨#[45, 62]⟩, ⟨#[61]⟩, ⟨#[92, 61]⟩, ⟨#[61, 61]⟩, ⟨#[92, 61, 61]⟩, ⟨#[64, 60]⟩, ⟨#[64, 62]⟩, ⟨#[64, 61, 60]⟩, ⟨#[64, 62, 61]⟩, ⟨#[61, 46, 46]⟩, ⟨#[99, 111, 112, 121, 95, 116, 101, 114, 109]⟩, ⟨#[105, 115]⟩, ⟨#[61, 58, 61]⟩, ⟨#[61, 92, 61]⟩, ⟨#[60]⟩, ⟨#[62]⟩, ⟨#[61, 60]⟩, ⟨#[62, 61]⟩, ⟨#[97, 116, 111, 109, 95, 108, 101, 110, 103, 116, 104]⟩, ⟨#[97, 116, 111, 109, 95, 99, 104, 97, 114, 115]⟩, ⟨#[108, 101, 110, 103, 116, 104]⟩, ⟨#[115, 111, 114, 116]⟩, ⟨#[58, 45]⟩, ⟨#[45, 45, 62]⟩]
def resB3 : List ByteArray := [⟨#[99, 97, 116, 99, 104]⟩, ⟨#[102, 105, 110, 100, 97, 108, 108]⟩, ⟨#[99, 111, 109, 112, 97, 114, 101]⟩, ⟨#[102, 117, 110, 99, 116, 111, 114]⟩, ⟨#[97, 114, 103]⟩, ⟨#[98, 101, 116, 119, 101, 101, 110]⟩]
def resS0 : ByteArray := ⟨#[116, 114, 117, 101, 32, 102, 97, 105, 108, 32, 33, 32, 110, 108]⟩
def resS1 : ByteArray := ⟨#[92, 43, 32, 116, 104, 114, 111, 119, 32, 118, 97, 114, 32, 110, 111, 110, 118, 97, 114, 32, 97, 116, 111, 109, 32, 105, 110, 116, 101, 103, 101, 114, 32, 97, 116, 111, 109, 105, 99, 32, 99, 111, 109, 112, 111, 117, 110, 100, 32, 99, 97, 108, 108, 97, 98, 108, 101, 32, 103, 114, 111, 117, 110, 100, 32, 97, 115, 115, 101, 114, 116, 122, 32, 97, 115, 115, 101, 114, 116, 97, 32, 114, 101, 116, 114, 97, 99, 116, 32, 112, 114, 105, 110, 116, 32, 58, 45]⟩
def resS2 : ByteArray := ⟨#[44, 32, 59, 32, 45, 62, 32, 61, 32, 92, 61, 32, 61, 61, 32, 92, 61, 61, 32, 64, 60, 32, 64, 62, 32, 64, 61, 60, 32, 64, 62, 61, 32, 61, 46, 46, 32, 99, 111, 112, 121, 95, 116, 101, 114, 109, 32, 105, 115, 32, 61, 58, 61, 32, 61, 92, 61, 32, 60, 32, 62, 32, 61, 60, 32, 62, 61, 32, 97, 116, 111, 109, 95, 108, 101, 110, 103, 116, 104, 32, 97, 116, 111, 109, 95, 99, 104, 97, 114, 115, 32, 108, 101, 110, 103, 116, 104, 32, 115, 111, 114, 116, 32, 58, 45, 32, 45, 45, 62]⟩
def resS3 : ByteArray := ⟨#[99, 97, 116, 99, 104, 32, 102, 105, 110, 100, 97, 108, 108, 32, 99, 111, 109, 112, 97, 114, 101, 32, 102, 117, 110, 99, 116, 111, 114, 32, 97, 114, 103, 32, 98, 101, 116, 119, 101, 101, 110]⟩
def resB : Nat → List ByteArray
  | 0 => resB0
  | 1 => resB1
  | 2 => resB2
  | 3 => resB3
  | _ => []
def resSs : List ByteArray := [resS0, resS1, resS2, resS3]

theorem map_bytes (l : List ByteArray) : l.map ByteArray.toList = l.map (·.data.toList) := List.map_congr_left fun x _ => ByteArray.toList_eq x
theorem proB0_eq : proB0.map ByteArray.toList = proRow0 := by rw [map_bytes]; kernel_rfl
theorem proB1_eq : proB1.map ByteArray.toList = proRow1 := by rw [map_bytes]; kernel_rfl
theorem proB2_eq : proB2.map ByteArray.toList = proRow2 := by rw [map_bytes]; kernel_rfl
theorem proB3_eq : proB3.map ByteArray.toList = proRow3 := by rw [map_bytes]; kernel_rfl
theorem resB_eq : ∀ k, (resB k).map ByteArray.toList = resRow k
  | 0 => by rw [map_bytes]; kernel_rfl
  | 1 => by rw [map_bytes]; kernel_rfl
  | 2 => by rw [map_bytes]; kernel_rfl
  | 3 => by rw [map_bytes]; kernel_rfl
  | _ + 4 => rfl
theorem resB_small : ∀ k, (resB k).length ≤ 100
  | 0 => by decide
  | 1 => by decide
  | 2 => by decide
  | 3 => by decide
  | _ + 4 => by simp [resB]


/-- Strings in a new block. -/
theorem strs_new (w : World) (t : TypeId) (l : List ByteArray) (i : Nat) (x : ByteArray) (h : l[i]? = some x) : (w.alloc (.cells (l.map Value.string).toArray t)).cell? ⟨w.heap.size, i, none⟩ = some (.string x) := by
  rw [World.cell?_alloc_at _ _ _ _ rfl, List.getElem?_toArray, List.getElem?_map, h]
  rfl

theorem containsS_mem (l : List ByteArray) (x : ByteArray) : Lib.containsS l x = decide (x.toList ∈ l.map ByteArray.toList) := by
  rw [Bool.eq_iff_iff, Lib.containsS_iff]
  simp only [decide_eq_true_eq, List.mem_map]
  constructor
  · intro h; exact ⟨x, h, rfl⟩
  · rintro ⟨y, hy, e⟩
    rw [ByteArray.toList_eq, ByteArray.toList_eq] at e
    have : y = x := by
      obtain ⟨⟨ys⟩⟩ := y
      obtain ⟨⟨xs⟩⟩ := x
      simp only at e
      rw [e]
    exact this ▸ hy

/-- Is the string among these? -/
def hasB (l : List ByteArray) (s : ByteArray) : Bool := decide (s.toList ∈ l.map ByteArray.toList)

theorem contains_new (w : World) (t : TypeId) (l : List ByteArray) (x : ByteArray) (hl : l.length ≤ 1000) : Calls Try.prog 169 #[.slice (some ⟨w.heap.size, 0, none⟩) l.length l.length, .string x] (w.alloc (.cells (l.map Value.string).toArray t)) fun e w' =>
    e = .returned (.bool (hasB l x)) ∧ w' = w.alloc (.cells (l.map Value.string).toArray t) := by
  refine (Try.slices_Contains_string w.heap.size 0 l.length l.length l x _ (Nat.le_refl _) (by omega) (fun j hj => ?_)).mono ?_
  · rw [Nat.zero_add]
    exact strs_new w t l j _ (by rw [List.getElem?_eq_getElem hj, List.getD, List.getElem?_eq_getElem hj]; rfl)
  · rintro e w' ⟨rfl, rfl⟩
    rw [List.take_length, containsS_mem]
    exact ⟨rfl, rfl⟩


theorem isCall_true {s : List UInt8} (h : (s == [99, 97, 108, 108]) = true) : s = sCall := beq_iff_eq.1 h
theorem isCall_false {s : List UInt8} (h : (s == [99, 97, 108, 108]) = false) : s ≠ sCall := by simpa [sCall] using h
theorem eqn {n k : Int} (h : (n == k) = true) : n = k := beq_iff_eq.1 h
theorem nen {n k : Int} (h : (n == k) = false) : n ≠ k := by simpa using h

set_option maxHeartbeats 1000000 in
set_option maxRecDepth 100000 in
theorem reserved_calls (s : ByteArray) (n : Int) (w : World) : Calls Try.prog 124 #[.string s, .int .i64 n] w (Ret (.bool (reserved s.toList n)) w) := by
  have hR : Hid (∀ b, reserved s.toList n = b → ∀ w', Gr w w' → Ret (.bool (reserved s.toList n)) w (.returned (.bool b)) w') := fun b hb w' hg => ⟨by rw [hb], hg⟩
  generalize hQ : Ret (.bool (reserved s.toList n)) w = Q at hR ⊢
  clear hQ
  go_enter Try.func124, Try.ntmps124
  try simp only [List.append_eq, List.cons_append, List.nil_append]
  cases hn0 : (n == 0) with
  | true =>
    have hv := Lib.hid (show reserved s.toList n = hasB proB0 s by rw [eqn hn0, hasB, proB0_eq]; exact pro_0 _)
    go_wp2_with (first | (go_at_call 169; refine (contains_new w 9 proB0 s (by decide)).mono ?_; rintro e w' ⟨rfl, rfl⟩) | fail)
    exact hR.out _ hv.out _ (by go_grown)
  | false =>
  cases hn1 : (n == 1) with
  | true =>
    have hv := Lib.hid (show reserved s.toList n = hasB proB1 s by rw [eqn hn1, hasB, proB1_eq]; exact pro_1 _)
    go_wp2_with (first | (go_at_call 169; refine (contains_new w 9 proB1 s (by decide)).mono ?_; rintro e w' ⟨rfl, rfl⟩) | fail)
    exact hR.out _ hv.out _ (by go_grown)
  | false =>
  cases hn2 : (n == 2) with
  | true =>
    have hv := Lib.hid (show reserved s.toList n = (decide (s.toList = sCall) || hasB proB2 s) by rw [eqn hn2, hasB, proB2_eq]; exact pro_2 _)
    cases hc : (s.toList == [99, 97, 108, 108]) with
    | true =>
      have hv2 := Lib.hid (show reserved s.toList n = true by rw [hv.out, decide_eq_true (isCall_true hc)]; rfl)
      go_wp2_with fail
      exact hR.out _ hv2.out _ (by go_grown)
    | false =>
      have hv2 := Lib.hid (show reserved s.toList n = hasB proB2 s by rw [hv.out, decide_eq_false (isCall_false hc)]; rfl)
      go_wp2_with (first | (go_at_call 169; refine (contains_new w 9 proB2 s (by decide)).mono ?_; rintro e w' ⟨rfl, rfl⟩) | fail)
      exact hR.out _ hv2.out _ (by go_grown)
  | false =>
  cases hn3 : (n == 3) with
  | true =>
    have hv := Lib.hid (show reserved s.toList n = (decide (s.toList = sCall) || hasB proB3 s) by rw [eqn hn3, hasB, proB3_eq]; exact pro_3 _)
    cases hc : (s.toList == [99, 97, 108, 108]) with
    | true =>
      have hv2 := Lib.hid (show reserved s.toList n = true by rw [hv.out, decide_eq_true (isCall_true hc)]; rfl)
      go_wp2_with fail
      exact hR.out _ hv2.out _ (by go_grown)
    | false =>
      have hv2 := Lib.hid (show reserved s.toList n = hasB proB3 s by rw [hv.out, decide_eq_false (isCall_false hc)]; rfl)
      go_wp2_with (first | (go_at_call 169; refine (contains_new w 9 proB3 s (by decide)).mono ?_; rintro e w' ⟨rfl, rfl⟩) | fail)
      exact hR.out _ hv2.out _ (by go_grown)
  | false =>
  have hv : Hid (reserved s.toList n = (decide (s.toList = sCall) && decide (1 ≤ n) && decide (n ≤ 8))) := pro_x _ (nen hn0) (nen hn1) (nen hn2) (nen hn3)
  cases hc : (s.toList == [99, 97, 108, 108]) with
  | true =>
    have hv2 := Lib.hid (show reserved s.toList n = (decide (1 ≤ n) && decide (n ≤ 8)) by rw [hv.out, decide_eq_true (isCall_true hc), Bool.true_and])
    by_cases h1 : 1 ≤ n
    · have hv3 := Lib.hid (show reserved s.toList n = decide (n ≤ 8) by rw [hv2.out, decide_eq_true h1, Bool.true_and])
      go_wp2_with fail
      exact hR.out _ hv3.out _ (by go_grown)
    · have hv3 := Lib.hid (show reserved s.toList n = false by rw [hv2.out, decide_eq_false h1, Bool.false_and])
      go_wp2_with fail
      exact hR.out _ hv3.out _ (by go_grown)
  | false =>
    have hv2 := Lib.hid (show reserved s.toList n = false by rw [hv.out, decide_eq_false (isCall_false hc)]; rfl)
    go_wp2_with fail
    exact hR.out _ hv2.out _ (by go_grown)
end Go.Proofs.Ytmecghjnghhhkaa
