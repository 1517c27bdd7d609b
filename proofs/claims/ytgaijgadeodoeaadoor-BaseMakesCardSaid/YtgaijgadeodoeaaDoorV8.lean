/-
  hornref.vars, hornref.Vars
-/
import Derived.Test.YtgaijgadeodoeaaDoorV7
namespace Go.Proofs.YtgaijgadeodoeaaDoor
open Go.RowKit

theorem Kp.of_grown {C : Nat → Prop} {w w' : World} {row : Option Nat} (h : w.grownBy w' row) (hC : ∀ r, row = some r → C r) : Kp C w w' :=
  ⟨h.os, h.tape, h.output, h.size, fun i hi hc => h.block i hi fun e => hc (hC i e.symm)⟩

theorem infoI64 : (Tryd.prog.info? 2).map (fun i => (i.zero, i.size, i.bytes)) = some (some (.int .i64 0), 1, 8) := by kernel_rfl

/-- append of one number. -/
theorem wpList_append_int {P : Program} {w : World} {ops : Array Oper} {rest : List Oper} {o : Oper} {a : Act} {Q : Exit → Act → World → Prop} (hgd : o.guard = none) (s y : Operand)
    (ho : o.op = .call { callee := .builtin .append, args := #[s, y], argTypes := #[81, 81] }) (hP : P = Tryd.prog)
    (B : Nat) (v : Value) (L : List Int) (x : Int) (b c : Nat) (hs : a.eval s = v) (hy : a.eval y = .slice (some ⟨b, 0, none⟩) 1 c) (h : IntsOwn w B v L) (hB : B ≤ w.heap.size) (hl : L.length ≤ 1099511627777)
    (c0 : w.cell? ⟨b, 0, none⟩ = some (.int .i64 x))
    (hK : ∀ v' w', IntsOwn w' B v' (L ++ [x]) → w.grownBy w' v.ownBlock → (v'.ownBlock = v.ownBlock ∨ v'.ownBlock = some w.heap.size) → wpList P ops Q rest (a.put o.dst v') w') : wpList P ops Q (o :: rest) a w := by
  subst hP
  refine wpList_append_one hgd s y 81 2 ho Tryd.underlying81 infoI64 rfl (by decide) B v L.length (L.map (Value.int .i64)) b c [.int .i64 x] hs hy h hB rfl (by
    intro j u hu
    match j, hu with
    | 0, hu => cases hu; exact c0
    | j + 1, hu => simp at hu) (by
    intro u hu
    simp only [List.mem_cons, List.mem_nil_iff, or_false] at hu
    rw [hu]; rfl) (by simp only [maxLen]; omega) (by omega) ?_
  intro v' w' h2 h3 h4
  refine hK v' w' ?_ h3 h4
  unfold IntsOwn
  rw [List.length_append, List.map_append]
  exact h2

/-- The list that is handed on. -/
def VarsPost (B : Nat) (v0 : Value) (V : List Int) (w : World) (e : Ending) (w' : World) : Prop :=
  ∃ v', e = .returned v' ∧ IntsOwn w' B v' V ∧ Kp (fun b => v0.ownBlock = some b) w w' ∧ (v'.ownBlock = v0.ownBlock ∨ ∃ g, v'.ownBlock = some g ∧ w.heap.size ≤ g)

theorem VarsOk.in64 {V : List Int} (h : VarsOk V) : ∀ n ∈ V, In64 n := fun n hn => by have := h.2 n hn; exact ⟨by omega, by omega⟩

set_option maxHeartbeats 2000000 in
set_option maxRecDepth 100000 in
theorem vars_var (n : Int) (s : ByteArray) (p : Option Addr) (c : Nat) (B : Nat) (v : Value) (L : List Int) (w : World) (hn : 0 ≤ n ∧ n ≤ 1099511627776) (hB : B ≤ w.heap.size) (h : IntsOwn w B v L) (hL : VarsOk L) :
    Calls Tryd.prog 64 #[(Tm.mk 1 n s p c []).val, v] w (VarsPost B v (withVar L n) w) := by
  obtain ⟨pv, cv, rfl⟩ := h.form
  have H := Lib.hid h
  have HL := Lib.hid hL
  have hlen := hL.len
  have hlt := h.lt
  clear h hL
  have hR : Hid (∀ e w', VarsPost B (.slice pv L.length cv) (withVar L n) w e w' → VarsPost B (.slice pv L.length cv) (withVar L n) w e w') := fun _ _ h => h
  generalize hQ : VarsPost B (.slice pv L.length cv) (withVar L n) w = Q at hR ⊢
  rw [← hQ] at hR
  have HQ := Lib.hid hQ
  clear hQ
  simp only [Tm.val, Tm.k, Tm.n, Tm.s, Tm.p, Tm.c, Tm.l, List.length_nil]
  go_enter Tryd.func64, Tryd.ntmps64
  try simp only [List.append_eq, List.cons_append, List.nil_append]
  go_upto_region 1 with fail
  have hE := Blk4.new w (.int .i64 1) (.int .i64 n) (.string s) (.slice p 0 c)
  have gA : Gr w (w.alloc (.cells #[.int .i64 1, .int .i64 n, .string s, .slice p 0 c] 38)) := by go_grown
  generalize w.alloc (.cells #[.int .i64 1, .int .i64 n, .string s, .slice p (0 : Nat) c] 38) = wA at *
  have HE := Lib.hid hE
  obtain ⟨⟨y0, y1, y2, y3⟩, _, _⟩ := hE.parts
  clear hE
  have hcall := Lib.hid (has_calls pv cv L n wA ((H.out.gr gA).sl HL.out.in64).2)
  by_cases hm : n ∈ L
  · have hv : Hid (withVar L n = L) := if_pos hm
    have hi : hasIdx L n = (L.idxOf n : Int) := if_pos hm
    rw [hi] at hcall
    clear hi hm
    go_wp2_with (first
      | (go_at_call 65; refine hcall.out.mono ?_; rintro e w' ⟨rfl, hb⟩; obtain ⟨⟨z0, z1, z2, z3⟩, _, _⟩ := (HE.out.gr hb).parts; have g2 := gA.trans hb; clear hb y0 y1 y2 y3)
      | fail)
    go_loopg [1, 5] 0 (fun _ u i wr => u = .slice pv L.length cv ∧ i = .int .i64 0 ∧ wr = w')
    case atStart => exact ⟨rfl, rfl, rfl⟩
    case round =>
      obtain ⟨rfl, rfl, rfl⟩ := hrel
      go_wp2_with fail
      rw [← HQ.out]
      exact ⟨_, rfl, by rw [hv.out]; exact H.out.gr g2, Kp.of_gr g2, .inl rfl⟩
  · have hv : Hid (withVar L n = L ++ [n]) := if_neg hm
    have hi : hasIdx L n = -1 := if_neg hm
    rw [hi] at hcall
    clear hi hm
    go_wp2_with (first
      | (go_at_call 65; refine hcall.out.mono ?_; rintro e w' ⟨rfl, hb⟩; obtain ⟨⟨z0, z1, z2, z3⟩, _, _⟩ := (HE.out.gr hb).parts; have g2 := gA.trans hb; clear hb y0 y1 y2 y3)
      | (at_builtin; refine wpList_append_int rfl _ _ rfl rfl B _ L n w'.heap.size 1 rfl rfl (H.out.gr (by go_grown)) (by have := g2.size; simp; omega) hlen (by show _ = some (Value.int .i64 n); go_cell) ?_; intro v' w4 hi4 hg4 hown; have HI4 := Lib.hid hi4; have HG4 := Lib.hid hg4; have HO4 := Lib.hid hown; clear hi4 hg4 hown)
      | fail)
    rw [← HQ.out]
    refine ⟨_, rfl, by rw [hv.out]; exact HI4.out, (Kp.of_gr (w' := w'.alloc _) (by go_grown)).trans (Kp.of_grown HG4.out fun r h => h), HO4.out.imp id fun h => ⟨_, h, ?_⟩⟩
    have := g2.size
    simp
    omega

theorem Kp.trans' {v u : Value} {w w1 w2 : World} (h : Kp (fun b => v.ownBlock = some b) w w1) (k : Kp (fun b => u.ownBlock = some b) w1 w2) (ho : u.ownBlock = v.ownBlock ∨ ∃ g, u.ownBlock = some g ∧ w.heap.size + 1 ≤ g) : Kp (fun b => v.ownBlock = some b) w w2 := by
  rcases ho with ho | ⟨g, ho, hg⟩
  · rw [ho] at k
    exact h.trans k
  · refine ((h.mono (C' := fun b => v.ownBlock = some b ∨ w.heap.size ≤ b) fun _ h => .inl h).trans (k.mono fun b hb => .inr ?_)).weaken fun b hb hc => hc.resolve_right (by omega)
    rw [ho] at hb
    cases hb
    omega

def varsOf (t : Tm) : Prop := ∀ (B : Nat) (v : Value) (L : List Int) (w0 w : World), t.In w0 → t.erase.formed = true → Gr w0 w → w0.heap.size ≤ B → B ≤ w.heap.size → IntsOwn w B v L → VarsOk L →
  Calls Tryd.prog 64 #[t.val, v] w (VarsPost B v (T.vars t.erase L) w)

set_option maxHeartbeats 2000000 in
set_option maxRecDepth 100000 in
theorem vars_comp (k0 n : Int) (s : ByteArray) (p : Option Addr) (c : Nat) (l : List Tm) (hk1 : k0 ≠ 1) (hl50 : l.length ≤ 50) (hfl : ∀ x ∈ l, x.erase.formed = true) (ih : ∀ x ∈ l, varsOf x) (B : Nat) (v : Value) (L : List Int) (w0 w : World)
    (hin : (Tm.mk k0 n s p c l).In w0) (hgr : Gr w0 w) (hB0 : w0.heap.size ≤ B) (hB : B ≤ w.heap.size) (h : IntsOwn w B v L) (hL : VarsOk L) :
    Calls Tryd.prog 64 #[(Tm.mk k0 n s p c l).val, v] w (VarsPost B v (T.varsL (Tm.eraseL l) L) w) := by
  have HSl := Lib.hid hin.sl
  rw [Tm.In] at hin
  have hlc : l.length ≤ c := hin.2.2.2.1
  have hc : c ≤ 9223372036854775807 := hin.2.2.2.2.1.2
  have HIn := Lib.hid hin.2.2.2.2.2.2
  have Hfl := Lib.hid hfl
  have Hih := Lib.hid ih
  have H := Lib.hid h
  have HL := Lib.hid hL
  have hlt := h.lt
  have hgs := hgr.size
  have hk1' : (k0 == 1) = false := beq_eq_false_iff_ne.2 hk1
  clear hin hfl ih hk1 hL
  generalize hQ : VarsPost B v (T.varsL (Tm.eraseL l) L) w = Q
  have HQ := Lib.hid hQ
  clear hQ
  simp only [Tm.val, Tm.k, Tm.n, Tm.s, Tm.p, Tm.c, Tm.l]
  go_enter Tryd.func64, Tryd.ntmps64
  try simp only [List.append_eq, List.cons_append, List.nil_append]
  go_upto_region 1 with fail
  have hE := Blk4.new w (.int .i64 k0) (.int .i64 n) (.string s) (.slice p l.length c)
  have gA : Gr w (w.alloc (.cells #[.int .i64 k0, .int .i64 n, .string s, .slice p l.length c] 38)) := by go_grown
  have hszA : (w.alloc (.cells #[.int .i64 k0, .int .i64 n, .string s, .slice p l.length c] 38)).heap.size = w.heap.size + 1 := by simp
  generalize w.alloc (.cells #[.int .i64 k0, .int .i64 n, .string s, .slice p l.length c] 38) = wA at *
  have HE := Lib.hid hE
  obtain ⟨⟨y0, y1, y2, y3⟩, _, _⟩ := hE.parts
  have HA := Lib.hid (H.out.gr gA)
  clear hE h
  go_wp2_with fail
  clear y0 y1 y2 y3
  go_loopg [1, 5] l.length (fun m u i wr => ∃ k : Nat, k ≤ l.length ∧ m = l.length - k ∧ i = .int .i64 k ∧ Hid (IntsOwn wr B u (T.varsL (Tm.eraseL (l.take k)) L)) ∧ Hid (VarsOk (T.varsL (Tm.eraseL (l.take k)) L)) ∧
    Hid (Kp (fun b => v.ownBlock = some b) w wr) ∧ Hid (u.ownBlock = v.ownBlock ∨ ∃ g, u.ownBlock = some g ∧ w.heap.size + 1 ≤ g) ∧ Hid (Blk4 wr w.heap.size (.int .i64 k0) (.int .i64 n) (.string s) (.slice p l.length c)) ∧ w.heap.size + 1 ≤ wr.heap.size)
  case atStart => exact ⟨0, Nat.zero_le _, rfl, rfl, by rw [List.take_zero, Tm.eraseL, T.varsL]; exact HA.out, by rw [List.take_zero, Tm.eraseL, T.varsL]; exact HL.out, Kp.of_gr gA, .inl rfl, HE.out, by omega⟩
  case round =>
    obtain ⟨k, hk, rfl, rfl, HI, HLk, HK, HO, HB, hws⟩ := hrel
    obtain ⟨⟨b0, b1, b2, b3⟩, _, _⟩ := HB.out.parts
    have g0 : Gr w0 wr := Below.trans hgr (HK.out.below (B := w0.heap.size) (fun b hb => by have := (hlt b hb).1; omega) (by omega))
    by_cases hkl : k < l.length
    · obtain ⟨b, o, rfl⟩ := HSl.out.ptr (by omega)
      obtain ⟨⟨c0, c1, c2, c3⟩, _, _⟩ := (HSl.out.mono g0).elem k hkl
      have hmem : l[k] ∈ l := List.getElem_mem hkl
      have Hx := Lib.hid (Tm.InL_mem HIn.out _ hmem)
      have Hfx := Lib.hid (Hfl.out _ hmem)
      have Hix := Lib.hid (Hih.out _ hmem)
      have Hv1 := Lib.hid (varsL_step l k hkl L)
      clear hmem
      generalize l[k] = x at *
      have Hxv := Lib.hid (show x.val = .agg #[.int .i64 x.k, .int .i64 x.n, .string x.s, .slice x.p x.l.length x.c] from rfl)
      go_wp2_with fail
      rw [← Hxv.out]
      refine (Hix.out B _ _ w0 wr Hx.out Hfx.out g0 hB0 (by omega) HI.out HLk.out).mono ?_
      rintro e w2 ⟨v2, rfl, hi2, hk2, ho2⟩
      have hs2 := hk2.size
      have HI2 := Lib.hid hi2
      have HK2 : Hid (Kp (fun b => v.ownBlock = some b) w w2) := HK.out.trans' hk2 HO.out
      have HO2 : Hid (v2.ownBlock = v.ownBlock ∨ ∃ g, v2.ownBlock = some g ∧ w.heap.size + 1 ≤ g) := by
        rcases ho2 with h | ⟨g, h, hg⟩
        · rw [h]; exact HO.out
        · exact .inr ⟨g, h, by omega⟩
      have HB2 : Hid (Blk4 w2 w.heap.size (.int .i64 k0) (.int .i64 n) (.string s) (.slice (some ⟨b, o, none⟩) l.length c)) := HB.out.kp hk2 (fun e => by
        rcases HO.out with h | ⟨g, h, hg⟩
        · rw [h] at e; have := (hlt _ e).2; omega
        · rw [h] at e; cases e; omega)
      clear hi2 hk2 ho2
      go_wp2_with fail
      go_roundg (l.length - (k + 1))
      case measure => omega
      case rel => exact ⟨k + 1, by omega, rfl, by go_num, by rw [Hv1.out]; exact HI2.out, by rw [Hv1.out]; exact HLk.out.vars _ Hfx.out, HK2.out, HO2.out, HB2.out, by omega⟩
    · obtain rfl : k = l.length := by omega
      go_wp2_with fail
      rw [← HQ.out]
      refine ⟨_, rfl, ?_, HK.out, HO.out.imp id fun ⟨g, h, hg⟩ => ⟨g, h, by omega⟩⟩
      have := HI.out
      rw [List.take_length] at this
      exact this

theorem vars_any (NN : Nat) : ∀ t : Tm, SizeOf.sizeOf t ≤ NN → varsOf t := by
  induction NN with
  | zero => intro t h; cases t; simp at h
  | succ NN ih =>
    intro t hN B v L w0 w hin hfm hgr hB0 hB h hL
    obtain ⟨k, n, s, p, c, l⟩ := t
    by_cases hk1 : k = 1
    · subst hk1
      obtain ⟨hn, _, hl⟩ := formed_var hfm
      have hl0 : l = [] := by cases l with
        | nil => rfl
        | cons x xs => rw [Tm.eraseL] at hl; cases hl
      subst hl0
      rw [Tm.erase, T.vars, if_pos rfl]
      exact vars_var n s p c B v L w hn hB h hL
    · rw [Tm.erase, T.vars, if_neg hk1]
      have hsz := fun x (hx : x ∈ l) => Tm.sizeOf_mem hx k n s p c
      have hfa : l.length ≤ 50 ∧ ∀ x ∈ l, x.erase.formed = true := by
        by_cases hk4 : k = 4
        · obtain ⟨_, _, _, hl50, hfl⟩ := formed_elem hk4 hfm
          exact ⟨hl50, hfl⟩
        · rcases formed_args hfm with ⟨h6, _⟩ | ⟨_, h6⟩
          · exact absurd h6 hk4
          · cases l with
            | nil => exact ⟨by simp, fun x hx => by cases hx⟩
            | cons x xs => rw [Tm.eraseL] at h6; cases h6
      exact vars_comp k n s p c l hk1 hfa.1 hfa.2 (fun x hx => ih x (by have := hsz x hx; omega)) B v L w0 w hin hgr hB0 hB h hL

/-- A list of numbers is handed back. -/
def RetInts (V : List Int) (w : World) (e : Ending) (w' : World) : Prop := ∃ p c, e = .returned (.slice p V.length c) ∧ IntSl w' p c V ∧ Gr w w'

set_option maxHeartbeats 2000000 in
set_option maxRecDepth 100000 in
theorem rvars_calls (p : Option Addr) (c : Nat) (l : List Tm) (w : World) (h : Tm.Sl w p c l) (hfl : ∀ x ∈ l, x.erase.formed = true) :
    Calls Tryd.prog 44 #[.slice p l.length c] w (RetInts (T.varsL (Tm.eraseL l) []) w) := by
  have hlc : l.length ≤ c := h.1
  have hc : c ≤ 9223372036854775807 := h.2.1.2
  have HSl := Lib.hid h
  have HIn := Lib.hid h.2.2.2
  have Hfl := Lib.hid hfl
  clear h hfl
  generalize hQ : RetInts (T.varsL (Tm.eraseL l) []) w = Q
  have HQ := Lib.hid hQ
  clear hQ
  go_enter Tryd.func44, Tryd.ntmps44
  try simp only [List.append_eq, List.cons_append, List.nil_append]
  go_wp2_with fail
  go_loopg [3, 4] l.length (fun m u i wr => ∃ k : Nat, k ≤ l.length ∧ m = l.length - k ∧ i = .int .i64 k ∧ Hid (IntsOwn wr w.heap.size u (T.varsL (Tm.eraseL (l.take k)) [])) ∧ Hid (VarsOk (T.varsL (Tm.eraseL (l.take k)) [])) ∧ Gr w wr)
  case atStart => exact ⟨0, Nat.zero_le _, rfl, rfl, by rw [List.take_zero, Tm.eraseL, T.varsL]; exact IntsOwn.nil _ _, by rw [List.take_zero, Tm.eraseL, T.varsL]; exact VarsOk.nil, Gr.rfl' _⟩
  case round =>
    obtain ⟨k, hk, rfl, rfl, HI, HLk, gr⟩ := hrel
    by_cases hkl : k < l.length
    · obtain ⟨b, o, rfl⟩ := HSl.out.ptr (by omega)
      obtain ⟨⟨c0, c1, c2, c3⟩, _, _⟩ := (HSl.out.mono gr).elem k hkl
      have hmem : l[k] ∈ l := List.getElem_mem hkl
      have Hx := Lib.hid (Tm.InL_mem HIn.out _ hmem)
      have Hfx := Lib.hid (Hfl.out _ hmem)
      have Hv1 := Lib.hid (varsL_step l k hkl [])
      clear hmem
      generalize l[k] = x at *
      have Hxv := Lib.hid (show x.val = .agg #[.int .i64 x.k, .int .i64 x.n, .string x.s, .slice x.p x.l.length x.c] from rfl)
      go_wp2_with fail
      rw [← Hxv.out]
      refine (vars_any _ x (Nat.le_refl _) w.heap.size _ _ w wr Hx.out Hfx.out gr (Nat.le_refl _) gr.size HI.out HLk.out).mono ?_
      rintro e w2 ⟨v2, rfl, hi2, hk2, ho2⟩
      have HI2 := Lib.hid hi2
      have g2 : Gr w w2 := Below.trans gr (hk2.below (B := w.heap.size) (fun b hb => (HI.out.lt b hb).1) gr.size)
      clear hi2 hk2 ho2
      go_wp2_with fail
      go_roundg (l.length - (k + 1))
      case measure => omega
      case rel => exact ⟨k + 1, by omega, rfl, by go_num, by rw [Hv1.out]; exact HI2.out, by rw [Hv1.out]; exact HLk.out.vars _ Hfx.out, g2⟩
    · obtain rfl : k = l.length := by omega
      have hI := HI.out
      have hLk := HLk.out
      rw [List.take_length] at hI hLk
      obtain ⟨pv, cv, rfl⟩ := hI.form
      have Hs := Lib.hid (hI.sl hLk.in64).2
      clear HI hI hLk HLk
      go_wp2_with fail
      rw [← HQ.out]
      exact ⟨_, _, rfl, Hs.out, gr⟩

end Go.Proofs.YtgaijgadeodoeaaDoor
