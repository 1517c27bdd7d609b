/-
  hornref.Has, hornref.vars, hornref.Vars
  hornref.vars, hornref.Vars
  Robinson's road, plain: how many variables are free; which variables a term has; formed terms do not lie on zero blocks.
  A store in memory.
-/
import Derived.Test.YtjdoflfdlhpbmaaGreatBF17
import Derived.Test.YtjdoflfdlhpbmaaGreatBF20
import Derived.Test.YtjdoflfdlhpbmaaGreatBF22
namespace Go.Proofs.YtjdoflfdlhpbmaaGreat
open Go.RowKit

def hasIdx (L : List Int) (n : Int) : Int := if n ∈ L then (L.idxOf n : Int) else -1

theorem idxOf_first {L : List Int} {n : Int} {k : Nat} (hk : L[k]? = some n) (hno : ∀ i, i < k → L[i]? ≠ some n) : L.idxOf n = k := by
  obtain ⟨hlt, he⟩ := List.getElem?_eq_some_iff.1 hk
  have hm : n ∈ L := he ▸ List.getElem_mem hlt
  have h1 := List.idxOf_lt_length_of_mem hm
  have h2 : L[L.idxOf n] = n := List.getElem_idxOf h1
  rcases Nat.lt_trichotomy (L.idxOf n) k with h | h | h
  · exact absurd (List.getElem?_eq_some_iff.2 ⟨h1, h2⟩) (hno _ h)
  · exact h
  · have := List.not_of_lt_findIdx (p := (· == n)) (xs := L) (i := k) (by exact h)
    simp [he] at this

set_option maxHeartbeats 1000000 in
set_option maxRecDepth 100000 in
theorem has_calls (p : Option Addr) (c : Nat) (L : List Int) (n : Int) (w : World) (h : IntSl w p c L) : Calls Tryz.prog 36 #[.slice p L.length c, .int .i64 n] w (Ret (.int .i64 (hasIdx L n)) w) := by
  have hR : Hid (∀ m, hasIdx L n = m → ∀ w', Gr w w' → Ret (.int .i64 (hasIdx L n)) w (.returned (.int .i64 m)) w') := fun b hb w' hg => ⟨by rw [hb], hg⟩
  have HH := Lib.hid (show hasIdx L n = if n ∈ L then (L.idxOf n : Int) else -1 from rfl)
  generalize hQ : Ret (.int .i64 (hasIdx L n)) w = Q at hR ⊢
  clear hQ
  generalize hasIdx L n = r at *
  have hlc : L.length ≤ c := h.1
  have hc : c ≤ 9223372036854775807 := h.2.1
  have H := Lib.hid h
  clear h
  go_enter Tryz.func36, Tryz.ntmps36
  try simp only [List.append_eq, List.cons_append, List.nil_append]
  go_wp2_with fail
  go_loopg [5] L.length (fun m i wr => ∃ k : Nat, k ≤ L.length ∧ m = L.length - k ∧ i = .int .i64 k ∧ wr = w ∧ Hid (∀ i, i < k → L[i]? ≠ some n))
  case atStart => exact ⟨0, Nat.zero_le _, rfl, rfl, rfl, fun i hi => by omega⟩
  case round =>
    obtain ⟨k, hk, rfl, rfl, rfl, hno⟩ := hrel
    by_cases hlt : k < L.length
    · obtain ⟨b, o, rfl, _, hr⟩ := H.out.ptr (by omega)
      have hy : L[k]? = some L[k] := List.getElem?_eq_getElem hlt
      have c0 := hr k _ hy
      clear hr
      generalize L[k] = y at *
      have HY := Lib.hid hy
      clear hy
      cases he : (y == n) with
      | true =>
        have hyn : y = n := beq_iff_eq.1 he
        have hv : Hid (r = (k : Int)) := by
          have hk2 : L[k]? = some n := hyn ▸ HY.out
          show _ = _
          rw [HH.out, if_pos (List.mem_of_getElem? hk2), idxOf_first hk2 hno.out]
        clear hyn
        go_wp2_with fail
        exact hR.out _ hv.out _ (Gr.rfl' _)
      | false =>
        have hno2 : Hid (∀ i, i < k + 1 → L[i]? ≠ some n) := fun i hi => by
          by_cases hik : i = k
          · subst hik
            rw [HY.out]
            intro e
            cases e
            simp at he
          · exact hno.out i (by omega)
        go_wp2_with fail
        go_roundg (L.length - (k + 1))
        case measure => omega
        case rel => exact ⟨k + 1, by omega, rfl, by go_num, rfl, hno2⟩
    · obtain rfl : k = L.length := by omega
      have hv : Hid (r = -1) := by
        show _ = _
        rw [HH.out, if_neg]
        intro hm
        obtain ⟨i, hi, he⟩ := List.getElem_of_mem hm
        exact hno.out i hi (List.getElem?_eq_some_iff.2 ⟨hi, he⟩)
      go_wp2_with fail
      exact hR.out _ hv.out _ (Gr.rfl' _)

end Go.Proofs.YtjdoflfdlhpbmaaGreat

namespace Go.Proofs.YtjdoflfdlhpbmaaGreat
open Go.RowKit

/-- The list that is handed on. -/
def VarsPost (B : Nat) (v0 : Value) (V : List Int) (w : World) (e : Ending) (w' : World) : Prop :=
  ∃ v', e = .returned v' ∧ IntsOwn w' B v' V ∧ Kp (fun b => v0.ownBlock = some b) w w' ∧ (v'.ownBlock = v0.ownBlock ∨ ∃ g, v'.ownBlock = some g ∧ w.heap.size ≤ g)

theorem VarsOk.in64 {V : List Int} (h : VarsOk V) : ∀ n ∈ V, In64 n := fun n hn => by have := h.2 n hn; exact ⟨by omega, by omega⟩

set_option maxHeartbeats 2000000 in
set_option maxRecDepth 100000 in
theorem vars_var (n : Int) (s : ByteArray) (p : Option Addr) (c : Nat) (B : Nat) (v : Value) (L : List Int) (w : World) (_ : 0 ≤ n ∧ n ≤ 1099511627776) (hB : B ≤ w.heap.size) (h : IntsOwn w B v L) (hL : VarsOk L) :
    Calls Tryz.prog 35 #[(Tm.mk 1 n s p c []).val, v] w (VarsPost B v (withVar L n) w) := by
  obtain ⟨pv, cv, rfl⟩ := h.form
  have H := Lib.hid h
  have HL := Lib.hid hL
  have hlen := hL.len
  have hlt := h.lt
  clear h hL
  have hR : Hid (∀ e w', VarsPost B (.slice pv L.length cv) (withVar L n) w e w' → VarsPost B (.slice pv L.length cv) (withVar L n) w e w') := fun _ _ h => h
  generalize hQ : VarsPost B (.slice pv L.length cv) (withVar L n) w = Q at hR ⊢
  rw [← hQ] at hR
  have HQ := Lib.hid hQ
  clear hQ
  simp only [Tm.val, Tm.k, Tm.n, Tm.s, Tm.p, Tm.c, Tm.l, List.length_nil]
  go_enter Tryz.func35, Tryz.ntmps35
  try simp only [List.append_eq, List.cons_append, List.nil_append]
  go_upto_region 1 with fail
  have hE := Blk4.new w (.int .i64 1) (.int .i64 n) (.string s) (.slice p 0 c)
  have gA : Gr w (w.alloc (.cells #[.int .i64 1, .int .i64 n, .string s, .slice p 0 c] 24)) := by go_grown
  generalize w.alloc (.cells #[.int .i64 1, .int .i64 n, .string s, .slice p (0 : Nat) c] 24) = wA at *
  have HE := Lib.hid hE
  obtain ⟨⟨y0, y1, y2, y3⟩, _, _⟩ := hE.parts
  clear hE
  have hcall := Lib.hid (has_calls pv cv L n wA ((H.out.gr gA).sl HL.out.in64).2)
  by_cases hm : n ∈ L
  · have hv : Hid (withVar L n = L) := if_pos hm
    have hi : hasIdx L n = (L.idxOf n : Int) := if_pos hm
    rw [hi] at hcall
    clear hi hm
    go_wp2_with (first
      | (go_at_call 36; refine hcall.out.mono ?_; rintro e w' ⟨rfl, hb⟩; obtain ⟨⟨z0, z1, z2, z3⟩, _, _⟩ := (HE.out.gr hb).parts; have g2 := gA.trans hb; clear hb y0 y1 y2 y3)
      | fail)
    go_loopg [1, 5] 0 (fun _ u i wr => u = .slice pv L.length cv ∧ i = .int .i64 0 ∧ wr = w')
    case atStart => exact ⟨rfl, rfl, rfl⟩
    case round =>
      obtain ⟨rfl, rfl, rfl⟩ := hrel
      go_wp2_with fail
      rw [← HQ.out]
      exact ⟨_, rfl, by rw [hv.out]; exact H.out.gr g2, Kp.of_gr g2, .inl rfl⟩
  · have hv : Hid (withVar L n = L ++ [n]) := if_neg hm
    have hi : hasIdx L n = -1 := if_neg hm
    rw [hi] at hcall
    clear hi hm
    go_wp2_with (first
      | (go_at_call 36; refine hcall.out.mono ?_; rintro e w' ⟨rfl, hb⟩; obtain ⟨⟨z0, z1, z2, z3⟩, _, _⟩ := (HE.out.gr hb).parts; have g2 := gA.trans hb; clear hb y0 y1 y2 y3)
      | (at_builtin; refine wpList_append_int rfl _ _ rfl rfl B _ L n w'.heap.size 1 rfl rfl (H.out.gr (by go_grown)) (by have := g2.size; simp; omega) hlen (by show _ = some (Value.int .i64 n); go_cell) ?_; intro v' w4 hi4 hg4 hown; have HI4 := Lib.hid hi4; have HG4 := Lib.hid hg4; have HO4 := Lib.hid hown; clear hi4 hg4 hown)
      | fail)
    rw [← HQ.out]
    refine ⟨_, rfl, by rw [hv.out]; exact HI4.out, (Kp.of_gr (w' := w'.alloc _) (by go_grown)).trans (Kp.of_grown HG4.out fun r h => h), HO4.out.imp id fun h => ⟨_, h, ?_⟩⟩
    have := g2.size
    simp
    omega

theorem Kp.trans' {v u : Value} {w w1 w2 : World} (h : Kp (fun b => v.ownBlock = some b) w w1) (k : Kp (fun b => u.ownBlock = some b) w1 w2) (ho : u.ownBlock = v.ownBlock ∨ ∃ g, u.ownBlock = some g ∧ w.heap.size + 1 ≤ g) : Kp (fun b => v.ownBlock = some b) w w2 := by
  rcases ho with ho | ⟨g, ho, hg⟩
  · rw [ho] at k
    exact h.trans k
  · refine ((h.mono (C' := fun b => v.ownBlock = some b ∨ w.heap.size ≤ b) fun _ h => .inl h).trans (k.mono fun b hb => .inr ?_)).weaken fun b hb hc => hc.resolve_right (by omega)
    rw [ho] at hb
    cases hb
    omega

def varsOf (t : Tm) : Prop := ∀ (B : Nat) (v : Value) (L : List Int) (w0 w : World), t.In w0 → t.erase.formed = true → Gr w0 w → w0.heap.size ≤ B → B ≤ w.heap.size → IntsOwn w B v L → VarsOk L →
  Calls Tryz.prog 35 #[t.val, v] w (VarsPost B v (T.vars t.erase L) w)

set_option maxHeartbeats 2000000 in
set_option maxRecDepth 100000 in
theorem vars_comp (k0 n : Int) (s : ByteArray) (p : Option Addr) (c : Nat) (l : List Tm) (hk1 : k0 ≠ 1) (hl50 : l.length ≤ 50) (hfl : ∀ x ∈ l, x.erase.formed = true) (ih : ∀ x ∈ l, varsOf x) (B : Nat) (v : Value) (L : List Int) (w0 w : World)
    (hin : (Tm.mk k0 n s p c l).In w0) (hgr : Gr w0 w) (hB0 : w0.heap.size ≤ B) (hB : B ≤ w.heap.size) (h : IntsOwn w B v L) (hL : VarsOk L) :
    Calls Tryz.prog 35 #[(Tm.mk k0 n s p c l).val, v] w (VarsPost B v (T.varsL (Tm.eraseL l) L) w) := by
  have HSl := Lib.hid hin.sl
  rw [Tm.In] at hin
  have hlc : l.length ≤ c := hin.2.2.2.1
  have hc : c ≤ 9223372036854775807 := hin.2.2.2.2.1.2
  have HIn := Lib.hid hin.2.2.2.2.2.2
  have Hfl := Lib.hid hfl
  have Hih := Lib.hid ih
  have H := Lib.hid h
  have HL := Lib.hid hL
  have hlt := h.lt
  have hgs := hgr.size
  have hk1' : (k0 == 1) = false := beq_eq_false_iff_ne.2 hk1
  clear hin hfl ih hk1 hL
  generalize hQ : VarsPost B v (T.varsL (Tm.eraseL l) L) w = Q
  have HQ := Lib.hid hQ
  clear hQ
  simp only [Tm.val, Tm.k, Tm.n, Tm.s, Tm.p, Tm.c, Tm.l]
  go_enter Tryz.func35, Tryz.ntmps35
  try simp only [List.append_eq, List.cons_append, List.nil_append]
  go_upto_region 1 with fail
  have hE := Blk4.new w (.int .i64 k0) (.int .i64 n) (.string s) (.slice p l.length c)
  have gA : Gr w (w.alloc (.cells #[.int .i64 k0, .int .i64 n, .string s, .slice p l.length c] 24)) := by go_grown
  have hszA : (w.alloc (.cells #[.int .i64 k0, .int .i64 n, .string s, .slice p l.length c] 24)).heap.size = w.heap.size + 1 := by simp
  generalize w.alloc (.cells #[.int .i64 k0, .int .i64 n, .string s, .slice p l.length c] 24) = wA at *
  have HE := Lib.hid hE
  obtain ⟨⟨y0, y1, y2, y3⟩, _, _⟩ := hE.parts
  have HA := Lib.hid (H.out.gr gA)
  clear hE h
  go_wp2_with fail
  clear y0 y1 y2 y3
  go_loopg [1, 5] l.length (fun m u i wr => ∃ k : Nat, k ≤ l.length ∧ m = l.length - k ∧ i = .int .i64 k ∧ Hid (IntsOwn wr B u (T.varsL (Tm.eraseL (l.take k)) L)) ∧ Hid (VarsOk (T.varsL (Tm.eraseL (l.take k)) L)) ∧
    Hid (Kp (fun b => v.ownBlock = some b) w wr) ∧ Hid (u.ownBlock = v.ownBlock ∨ ∃ g, u.ownBlock = some g ∧ w.heap.size + 1 ≤ g) ∧ Hid (Blk4 wr w.heap.size (.int .i64 k0) (.int .i64 n) (.string s) (.slice p l.length c)) ∧ w.heap.size + 1 ≤ wr.heap.size)
  case atStart => exact ⟨0, Nat.zero_le _, rfl, rfl, by rw [List.take_zero, Tm.eraseL, T.varsL]; exact HA.out, by rw [List.take_zero, Tm.eraseL, T.varsL]; exact HL.out, Kp.of_gr gA, .inl rfl, HE.out, by omega⟩
  case round =>
    obtain ⟨k, hk, rfl, rfl, HI, HLk, HK, HO, HB, hws⟩ := hrel
    obtain ⟨⟨b0, b1, b2, b3⟩, _, _⟩ := HB.out.parts
    have g0 : Gr w0 wr := Below.trans hgr (HK.out.below (B := w0.heap.size) (fun b hb => by have := (hlt b hb).1; omega) (by omega))
    by_cases hkl : k < l.length
    · obtain ⟨b, o, rfl⟩ := HSl.out.ptr (by omega)
      obtain ⟨⟨c0, c1, c2, c3⟩, _, _⟩ := (HSl.out.mono g0).elem k hkl
      have hmem : l[k] ∈ l := List.getElem_mem hkl
      have Hx := Lib.hid (Tm.InL_mem HIn.out _ hmem)
      have Hfx := Lib.hid (Hfl.out _ hmem)
      have Hix := Lib.hid (Hih.out _ hmem)
      have Hv1 := Lib.hid (varsL_step l k hkl L)
      clear hmem
      generalize l[k] = x at *
      have Hxv := Lib.hid (show x.val = .agg #[.int .i64 x.k, .int .i64 x.n, .string x.s, .slice x.p x.l.length x.c] from rfl)
      go_wp2_with fail
      rw [← Hxv.out]
      refine (Hix.out B _ _ w0 wr Hx.out Hfx.out g0 hB0 (by omega) HI.out HLk.out).mono ?_
      rintro e w2 ⟨v2, rfl, hi2, hk2, ho2⟩
      have hs2 := hk2.size
      have HI2 := Lib.hid hi2
      have HK2 : Hid (Kp (fun b => v.ownBlock = some b) w w2) := HK.out.trans' hk2 HO.out
      have HO2 : Hid (v2.ownBlock = v.ownBlock ∨ ∃ g, v2.ownBlock = some g ∧ w.heap.size + 1 ≤ g) := by
        rcases ho2 with h | ⟨g, h, hg⟩
        · rw [h]; exact HO.out
        · exact .inr ⟨g, h, by omega⟩
      have HB2 : Hid (Blk4 w2 w.heap.size (.int .i64 k0) (.int .i64 n) (.string s) (.slice (some ⟨b, o, none⟩) l.length c)) := HB.out.kp hk2 (fun e => by
        rcases HO.out with h | ⟨g, h, hg⟩
        · rw [h] at e; have := (hlt _ e).2; omega
        · rw [h] at e; cases e; omega)
      clear hi2 hk2 ho2
      go_wp2_with fail
      go_roundg (l.length - (k + 1))
      case measure => omega
      case rel => exact ⟨k + 1, by omega, rfl, by go_num, by rw [Hv1.out]; exact HI2.out, by rw [Hv1.out]; exact HLk.out.vars _ Hfx.out, HK2.out, HO2.out, HB2.out, by omega⟩
    · obtain rfl : k = l.length := by omega
      go_wp2_with fail
      rw [← HQ.out]
      refine ⟨_, rfl, ?_, HK.out, HO.out.imp id fun ⟨g, h, hg⟩ => ⟨g, h, by omega⟩⟩
      have := HI.out
      rw [List.take_length] at this
      exact this

theorem vars_any (NN : Nat) : ∀ t : Tm, SizeOf.sizeOf t ≤ NN → varsOf t := by
  induction NN with
  | zero => intro t h; cases t; simp at h
  | succ NN ih =>
    intro t hN B v L w0 w hin hfm hgr hB0 hB h hL
    obtain ⟨k, n, s, p, c, l⟩ := t
    by_cases hk1 : k = 1
    · subst hk1
      obtain ⟨hn, _, hl⟩ := formed_var hfm
      have hl0 : l = [] := by cases l with
        | nil => rfl
        | cons x xs => rw [Tm.eraseL] at hl; cases hl
      subst hl0
      rw [Tm.erase, T.vars, if_pos rfl]
      exact vars_var n s p c B v L w hn hB h hL
    · rw [Tm.erase, T.vars, if_neg hk1]
      have hsz := fun x (hx : x ∈ l) => Tm.sizeOf_mem hx k n s p c
      have hfa : l.length ≤ 50 ∧ ∀ x ∈ l, x.erase.formed = true := by
        by_cases hk4 : k = 4
        · obtain ⟨_, _, _, hl50, hfl⟩ := formed_elem hk4 hfm
          exact ⟨hl50, hfl⟩
        · rcases formed_args hfm with ⟨h6, _⟩ | ⟨_, h6⟩
          · exact absurd h6 hk4
          · cases l with
            | nil => exact ⟨by simp, fun x hx => by cases hx⟩
            | cons x xs => rw [Tm.eraseL] at h6; cases h6
      exact vars_comp k n s p c l hk1 hfa.1 hfa.2 (fun x hx => ih x (by have := hsz x hx; omega)) B v L w0 w hin hgr hB0 hB h hL

/-- A list of numbers is handed back. -/
def RetInts (V : List Int) (w : World) (e : Ending) (w' : World) : Prop := ∃ p c, e = .returned (.slice p V.length c) ∧ IntSl w' p c V ∧ Gr w w'

set_option maxHeartbeats 2000000 in
set_option maxRecDepth 100000 in
theorem rvars_calls (p : Option Addr) (c : Nat) (l : List Tm) (w : World) (h : Tm.Sl w p c l) (hfl : ∀ x ∈ l, x.erase.formed = true) :
    Calls Tryz.prog 12 #[.slice p l.length c] w (RetInts (T.varsL (Tm.eraseL l) []) w) := by
  have hlc : l.length ≤ c := h.1
  have hc : c ≤ 9223372036854775807 := h.2.1.2
  have HSl := Lib.hid h
  have HIn := Lib.hid h.2.2.2
  have Hfl := Lib.hid hfl
  clear h hfl
  generalize hQ : RetInts (T.varsL (Tm.eraseL l) []) w = Q
  have HQ := Lib.hid hQ
  clear hQ
  go_enter Tryz.func12, Tryz.ntmps12
  try simp only [List.append_eq, List.cons_append, List.nil_append]
  go_wp2_with fail
  go_loopg [3, 4] l.length (fun m u i wr => ∃ k : Nat, k ≤ l.length ∧ m = l.length - k ∧ i = .int .i64 k ∧ Hid (IntsOwn wr w.heap.size u (T.varsL (Tm.eraseL (l.take k)) [])) ∧ Hid (VarsOk (T.varsL (Tm.eraseL (l.take k)) [])) ∧ Gr w wr)
  case atStart => exact ⟨0, Nat.zero_le _, rfl, rfl, by rw [List.take_zero, Tm.eraseL, T.varsL]; exact IntsOwn.nil _ _, by rw [List.take_zero, Tm.eraseL, T.varsL]; exact VarsOk.nil, Gr.rfl' _⟩
  case round =>
    obtain ⟨k, hk, rfl, rfl, HI, HLk, gr⟩ := hrel
    by_cases hkl : k < l.length
    · obtain ⟨b, o, rfl⟩ := HSl.out.ptr (by omega)
      obtain ⟨⟨c0, c1, c2, c3⟩, _, _⟩ := (HSl.out.mono gr).elem k hkl
      have hmem : l[k] ∈ l := List.getElem_mem hkl
      have Hx := Lib.hid (Tm.InL_mem HIn.out _ hmem)
      have Hfx := Lib.hid (Hfl.out _ hmem)
      have Hv1 := Lib.hid (varsL_step l k hkl [])
      clear hmem
      generalize l[k] = x at *
      have Hxv := Lib.hid (show x.val = .agg #[.int .i64 x.k, .int .i64 x.n, .string x.s, .slice x.p x.l.length x.c] from rfl)
      go_wp2_with fail
      rw [← Hxv.out]
      refine (vars_any _ x (Nat.le_refl _) w.heap.size _ _ w wr Hx.out Hfx.out gr (Nat.le_refl _) gr.size HI.out HLk.out).mono ?_
      rintro e w2 ⟨v2, rfl, hi2, hk2, ho2⟩
      have HI2 := Lib.hid hi2
      have g2 : Gr w w2 := Below.trans gr (hk2.below (B := w.heap.size) (fun b hb => (HI.out.lt b hb).1) gr.size)
      clear hi2 hk2 ho2
      go_wp2_with fail
      go_roundg (l.length - (k + 1))
      case measure => omega
      case rel => exact ⟨k + 1, by omega, rfl, by go_num, by rw [Hv1.out]; exact HI2.out, by rw [Hv1.out]; exact HLk.out.vars _ Hfx.out, g2⟩
    · obtain rfl : k = l.length := by omega
      have hI := HI.out
      have hLk := HLk.out
      rw [List.take_length] at hI hLk
      obtain ⟨pv, cv, rfl⟩ := hI.form
      have Hs := Lib.hid (hI.sl hLk.in64).2
      clear HI hI hLk HLk
      go_wp2_with fail
      rw [← HQ.out]
      exact ⟨_, _, rfl, Hs.out, gr⟩

end Go.Proofs.YtjdoflfdlhpbmaaGreat

namespace Go.Proofs.YtjdoflfdlhpbmaaGreat
open Go.RowKit Go.Lib

/-- So many of the first variables are not bound. -/
def freeN (ρ : Int → T) : Nat → Nat
  | 0 => 0
  | m + 1 => freeN ρ m + if T.same (ρ m) (varT m) = true then 1 else 0
theorem freeN_le {ρ ρ' : Int → T} (h : ∀ n, ρ n ≠ varT n → ρ' n ≠ varT n) : ∀ m, freeN ρ' m ≤ freeN ρ m
  | 0 => Nat.le_refl _
  | m + 1 => by
    have := freeN_le h m
    rw [freeN, freeN]
    by_cases h1 : T.same (ρ' m) (varT m) = true
    · have h2 : T.same (ρ m) (varT m) = true := Classical.byContradiction fun h3 => h m (fun e => h3 ((same_iff _ _).2 e)) ((same_iff _ _).1 h1)
      rw [if_pos h1, if_pos h2]
      omega
    · rw [if_neg h1]
      split <;> omega
theorem freeN_lt {ρ ρ' : Int → T} (h : ∀ n, ρ n ≠ varT n → ρ' n ≠ varT n) {x : Nat} (h1 : ρ x = varT x) (h2 : ρ' x ≠ varT x) : ∀ m, x < m → freeN ρ' m < freeN ρ m
  | 0, hx => absurd hx (Nat.not_lt_zero _)
  | m + 1, hx => by
    rw [freeN, freeN]
    by_cases hm : x = m
    · subst hm
      have := freeN_le h x
      rw [if_neg (fun e => h2 ((same_iff _ _).1 e)), if_pos ((same_iff _ _).2 h1)]
      omega
    · have := freeN_lt h h1 h2 m (by omega)
      by_cases h3 : T.same (ρ' m) (varT m) = true
      · have h4 : T.same (ρ m) (varT m) = true := Classical.byContradiction fun h5 => h m (fun e => h5 ((same_iff _ _).2 e)) ((same_iff _ _).1 h3)
        rw [if_pos h3, if_pos h4]
        omega
      · rw [if_neg h3]
        split <;> omega
/-- How many variables are not bound. -/
def freeV (ρ : Int → T) : Nat := freeN ρ 1099511627777
theorem freeV_step {ρ : Int → T} (hρ : Canon ρ) {x : Int} {y : T} (hx : ρ x = varT x) (hr : 0 ≤ x ∧ x ≤ 1099511627776) (hyf : ∀ m, T.occ m y → ρ m = varT m) (hne : y ≠ varT x) : freeV (stepF ρ x y) < freeV ρ := by
  have hkeep : ∀ n, ρ n ≠ varT n → stepF ρ x y n ≠ varT n := fun n hn he => by
    rcases hρ.form n with h | ⟨h, _⟩
    · exact hn h
    · obtain ⟨j, hj, hjn⟩ := T.map_is_var he h
      rw [oneF] at hjn
      split at hjn
      · exact hn (hyf n (by rw [hjn]; exact T.occ_var.2 rfl))
      · rw [← hjn] at hn
        exact hn hj
  obtain ⟨k, rfl⟩ := Int.eq_ofNat_of_zero_le hr.1
  refine freeN_lt hkeep hx ?_ _ (by omega)
  rw [stepF, hx, T.map_var, oneF, if_pos rfl]
  exact hne

mutual
theorem T.mem_vars {n : Int} : ∀ (t : T) (V : List Int), t.formed = true → (n ∈ T.vars t V ↔ n ∈ V ∨ T.occ n t)
  | .mk k m s l, V, h => by
    rw [T.vars, T.occ]
    by_cases h1 : k = 1
    · rw [if_pos h1, if_pos h1]
      split
      · rename_i hm
        constructor
        · exact .inl
        · rintro (h2 | rfl)
          · exact h2
          · exact hm
      · rw [List.mem_append, List.mem_singleton]
        constructor
        · exact Or.imp id Eq.symm
        · exact Or.imp id Eq.symm
    · rw [if_neg h1, if_neg h1]
      rcases formed_args h with ⟨h4, hl⟩ | ⟨h4, rfl⟩
      · rw [if_pos h4, T.mem_varsL l V hl]
      · rw [if_neg h4, T.varsL]
        simp
theorem T.mem_varsL {n : Int} : ∀ (l : List T) (V : List Int), T.formedL l = true → (n ∈ T.varsL l V ↔ n ∈ V ∨ T.occL n l)
  | [], V, _ => by rw [T.varsL, T.occL]; simp
  | x :: xs, V, h => by
    rw [T.formedL, Bool.and_eq_true] at h
    rw [T.varsL, T.occL, T.mem_varsL xs _ h.2, T.mem_vars x V h.1, or_assoc]
end
theorem has_occ {t : T} (_ : t.formed = true) (n : Int) : decide (hasIdx (T.varsL [t] []) n ≥ 0) = decide (n ∈ T.varsL [t] []) := by
  rw [hasIdx]
  by_cases hm : n ∈ T.varsL [t] []
  · rw [if_pos hm]
    rw [decide_eq_true hm]
    exact decide_eq_true (Int.natCast_nonneg _)
  · rw [if_neg hm, decide_eq_false hm]
    rfl
theorem mem_varsOne {t : T} (h : t.formed = true) (n : Int) : n ∈ T.varsL [t] [] ↔ T.occ n t := by
  rw [T.mem_varsL [t] [] (by rw [T.formedL, T.formedL, h]; rfl), T.occL, T.occL]
  simp

/-- A formed term does not lie on a block for a term that has not been stored into. -/
theorem on_not_zero {w : World} {B : Nat} (hz : BlkZ w B) : ∀ t : Tm, t.In w → t.erase.formed = true → t.On (· ≠ B) := by
  intro t
  induction hN : SizeOf.sizeOf t using Nat.strongRecOn generalizing t with
  | _ N ih =>
    obtain ⟨k, n, s, p, c, l⟩ := t
    intro h hf
    have hfa : ∀ x ∈ l, x.erase.formed = true := fun x hx => by
      have h1 : T.formed (.mk k n s.toList (Tm.eraseL l)) = true := hf
      rcases formed_args h1 with ⟨h4, _⟩ | ⟨_, h5⟩
      · exact (formed_elem h4 hf).2.2.2.2 x hx
      · have := congrArg List.length h5
        rw [Tm.eraseL_length] at this
        rw [List.eq_nil_of_length_eq_zero this] at hx
        cases hx
    rw [Tm.In] at h
    rw [Tm.On]
    refine ⟨?_, Tm.OnL_of fun x hx => ih _ (by rw [← hN]; exact Tm.sizeOf_mem hx k n s p c) x rfl (Tm.InL_mem h.2.2.2.2.2.2 x hx) (hfa x hx)⟩
    rcases h.2.2.2.2.2.1 with h1 | ⟨b, o, hp, hr⟩
    · exact .inl h1
    · cases hl : l with
      | nil => exact .inl rfl
      | cons x xs =>
        refine .inr ⟨b, o, hp, fun e => ?_⟩
        have hx := hfa x (by rw [hl]; simp)
        have hk : x.k ≠ 0 := fun e => by
          obtain ⟨kx, nx, sx, px, cx, lx⟩ := x
          obtain rfl : kx = 0 := e
          have : T.formed (.mk 0 nx sx.toList (Tm.eraseL lx)) = true := hx
          rw [T.formed] at this
          simp at this
        have h0 := (hr 0 x (by rw [hl]; rfl)).1
        rw [Nat.zero_mul, Nat.add_zero, e] at h0
        obtain ⟨⟨z0, z1, z2, z3⟩, _, _⟩ := Blk4.parts hz
        have hsz : ∀ o, w.cell? ⟨B, o, none⟩ = #[Value.int .i64 0, .int .i64 0, .string ⟨#[]⟩, .slice none 0 0][o]? := fun o => cell_of_row w B o _ _ _ hz
        match o, h0 with
        | 0, h0 => rw [z0] at h0; have h9 := Option.some.inj h0; injection h9 with _ h10; exact hk h10.symm
        | 1, h0 => rw [z1] at h0; have h9 := Option.some.inj h0; injection h9 with _ h10; exact hk h10.symm
        | 2, h0 => rw [z2] at h0; cases h0
        | 3, h0 => rw [z3] at h0; cases h0
        | o + 4, h0 => rw [hsz] at h0; simp at h0

theorem bindsErr_one {x : Bd} (hf : x.t.erase.formed = true) (hv : 0 ≤ x.v ∧ x.v ≤ 1099511627776) : bindsErr [x] = 0 := by
  rw [bindsErr, if_pos (by simp [hf]), if_pos]
  rw [ascB, ascB, decide_eq_true (show -1 < x.v by omega), decide_eq_true hv.2]
  rfl
theorem ListOf.err {ρ : Int → T} {l : List Bd} (h : ListOf ρ l) : bindsErr l = 0 := by
  rw [bindsErr, if_pos (List.all_eq_true.2 fun y hy => (h.2.2 y hy).1), if_pos h.1]
/-- Which side is bound, addresses and all. -/
def orientM (x y : Tm) : Tm × Tm := if y.k = 1 ∧ (x.k ≠ 1 ∨ x.n < y.n) then (y, x) else (x, y)
theorem Tm.erase_k (x : Tm) : x.erase.k = x.k := by cases x; rfl
theorem Tm.erase_n (x : Tm) : x.erase.n = x.n := by cases x; rfl
theorem orientM_erase (x y : Tm) : orient x.erase y.erase = ((orientM x y).1.erase, (orientM x y).2.erase) := by
  rw [orient, orientM, Tm.erase_k, Tm.erase_k, Tm.erase_n, Tm.erase_n]
  split <;> rfl
theorem orientM_all {R : Tm → Prop} {x y : Tm} (hx : R x) (hy : R y) : R (orientM x y).1 ∧ R (orientM x y).2 := by
  rw [orientM]
  split
  · exact ⟨hy, hx⟩
  · exact ⟨hx, hy⟩
end Go.Proofs.YtjdoflfdlhpbmaaGreat

namespace Go.Proofs.YtjdoflfdlhpbmaaGreat
open Go.RowKit Go.Maps Go.Lib

theorem zero_term (w : World) : (zeroValue 24).run Tryz.prog w = .ok zeroTm.val w := by kernel_rfl

/-- What a lookup gives, whatever has been made since. -/
theorem TMap.look {S : Nat → Prop} {w : World} {b : Nat} {f : Int → Option T} (h : TMap S w b f) {n : Int} (hn : In64 n) :
    ∃ (u : Tm) (x : Bool), (∀ (C : Nat → Prop) (ww : World), Kp C w ww → ¬ C b → (Instr.lookup 119 (.map (some b)) (.int .i64 n) true).run Tryz.prog ww = .ok (.tuple #[u.val, .bool x]) ww) ∧
      ((x = false ∧ f n = none ∧ u = zeroTm) ∨ (x = true ∧ ∃ t, f n = some t ∧ u.In w ∧ u.erase = t ∧ t.formed = true ∧ u.On S)) := by
  obtain ⟨⟨g, h1, h2⟩, h3, h4⟩ := h
  have hrun : ∀ (C : Nat → Prop) (ww : World), Kp C w ww → ¬ C b → (Instr.lookup 119 (.map (some b)) (.int .i64 n) true).run Tryz.prog ww = .ok (.tuple #[(g n).getD zeroTm.val, .bool (g n).isSome]) ww := fun C ww hk hb =>
    ((h1.kp hk hb).run (int_keyed Tryz.underlying2) Tryz.underlying119 (zero_term ww) (x := n) (keyOf_int_mk Tryz.underlying2 (wf_64 hn))).2
  have h5 := h2 n
  cases hf : f n with
  | none =>
    rw [hf] at h5
    simp only at h5
    refine ⟨zeroTm, false, fun C ww hk hb => ?_, .inl ⟨rfl, rfl, rfl⟩⟩
    rw [hrun C ww hk hb, h5]
    rfl
  | some t =>
    rw [hf] at h5
    obtain ⟨tm, i1, i2, i3, i4, i5⟩ := h5
    refine ⟨tm, true, fun C ww hk hb => ?_, .inr ⟨rfl, t, rfl, i2, i3, i4, i5⟩⟩
    rw [hrun C ww hk hb, i1]
    rfl

/-- A store: at P its three cells, at M the map; the trail; how long it was at each mark. -/
structure SM (S : Nat → Prop) (B : Nat) (w : World) (P M : Nat) (vt vm : Value) (σ : Int → Option T) (tr mk : List Int) : Prop where
  blk : BlkT w P 121 #[.map (some M), vt, vm]
  map : TMap S w M σ
  tro : IntsOwn w B vt tr
  mko : w.ownsRow B 3 1 vm mk.length (mk.map (Value.int .i64))
  trn : tr.Nodup
  tri : ∀ n, n ∈ tr ↔ σ n ≠ none
  sepS : ∀ b, S b → b < w.heap.size ∧ b ≠ P ∧ b ≠ M ∧ vt.ownBlock ≠ some b ∧ vm.ownBlock ≠ some b
  nPM : P ≠ M
  nt : vt.ownBlock ≠ some P ∧ vt.ownBlock ≠ some M
  nm : vm.ownBlock ≠ some P ∧ vm.ownBlock ≠ some M
  ntm : ∀ b, vt.ownBlock = some b → vm.ownBlock ≠ some b
  bnd : B ≤ w.heap.size

section
variable {S : Nat → Prop} {B : Nat} {w w' : World} {P M : Nat} {vt vm : Value} {σ : Int → Option T} {tr mk : List Int}
theorem TMap.lt (h : TMap S w M σ) : M < w.heap.size := by
  obtain ⟨⟨g, h1, _⟩, _, _⟩ := h
  exact h1.lt
theorem TMap.gr (h : TMap S w M σ) (hg : Gr w w') : TMap S w' M σ := h.kp (C := fun _ => False) (Kp.of_gr hg) id fun _ _ => id
theorem TMap.mono {S' : Nat → Prop} (h : TMap S w M σ) (hS : ∀ b, S b → S' b) : TMap S' w M σ := by
  obtain ⟨⟨g, h1, h2⟩, h3, h4⟩ := h
  refine ⟨⟨g, h1, fun n => ?_⟩, h3, h4⟩
  have := h2 n
  cases hf : σ n with
  | none => rw [hf] at this; exact this
  | some t =>
    rw [hf] at this
    obtain ⟨tm, i1, i2, i3, i4, i5⟩ := this
    exact ⟨tm, i1, i2, i3, i4, i5.mono hS⟩
theorem SM.gr (h : SM S B w P M vt vm σ tr mk) (hg : Gr w w') : SM S B w' P M vt vm σ tr mk where
  blk := h.blk.gr hg
  map := h.map.gr hg
  tro := h.tro.gr hg
  mko := ownsRow_gr h.mko hg
  trn := h.trn
  tri := h.tri
  sepS b hb := ⟨Nat.lt_of_lt_of_le (h.sepS b hb).1 hg.size, (h.sepS b hb).2⟩
  nPM := h.nPM
  nt := h.nt
  nm := h.nm
  ntm := h.ntm
  bnd := Nat.le_trans h.bnd hg.size
/-- More terms may be laid in it. -/
theorem SM.mono {S' : Nat → Prop} (h : SM S B w P M vt vm σ tr mk) (hS : ∀ b, S b → S' b) (hS' : ∀ b, S' b → b < w.heap.size ∧ b ≠ P ∧ b ≠ M ∧ vt.ownBlock ≠ some b ∧ vm.ownBlock ≠ some b) : SM S' B w P M vt vm σ tr mk :=
  { h with map := h.map.mono hS, sepS := hS' }
theorem SM.range (h : SM S B w P M vt vm σ tr mk) (n : Int) (hn : n ∈ tr) : 0 ≤ n ∧ n ≤ 1099511627776 := h.map.2.2 n ((h.tri n).1 hn)
theorem SM.len (h : SM S B w P M vt vm σ tr mk) : tr.length ≤ 1099511627777 := nodup_le 1099511627777 tr h.trn fun x hx => by
  have := h.range x hx
  omega
/-- The blocks that a store may write to. -/
def MutU (P M : Nat) (vt : Value) (b : Nat) : Prop := b = P ∨ b = M ∨ vt.ownBlock = some b
theorem SM.nmut (h : SM S B w P M vt vm σ tr mk) {b : Nat} (hb : S b) : ¬ MutU P M vt b := fun hm => by
  obtain ⟨_, h1, h2, h3, _⟩ := h.sepS b hb
  rcases hm with rfl | rfl | hm
  · exact h1 rfl
  · exact h2 rfl
  · exact h3 hm
end
end Go.Proofs.YtjdoflfdlhpbmaaGreat
