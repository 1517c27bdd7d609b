/-
  hornref.Base's All and Known; hornlaw.numbers.
  hornref.Base's Get.
  append of clauses that ever were; hornref.Base's Remove.
  A plain clause's head can be called.
-/
import Derived.Test.YtjdoflfdlhpbmaaDoorBP17
import Derived.Test.YtjdoflfdlhpbmaaDoorBP16
import Derived.Deep.LoopGhost
import Derived.BigQuiet
import Derived.Test.YtjdoflfdlhpbmaaDoorBP02
import Derived.Lib.AppendZeros
namespace Go.Proofs.YtjdoflfdlhpbmaaDoor
open Go.RowKit Go.Maps Go.Lib

/-- The numbers of those that are there. -/
def allR (L : List HrT) : List Int := (L.filter (·.t)).map (·.i)
theorem allR_snoc (L : List Hr) (k : Nat) (hk : k < L.length) : allR ((L.take (k + 1)).map Hr.er) = allR ((L.take k).map Hr.er) ++ if L[k].t then [L[k].i] else [] := by
  rw [List.take_succ_eq_append_getElem hk, allR, allR, List.map_append, List.filter_append, List.map_append]
  congr 1
  show (List.filter (fun x : HrT => x.t) [L[k].er]).map _ = _
  rw [List.filter_cons]
  show (if L[k].t = true then _ else _ : List HrT).map _ = _
  cases L[k].t <;> rfl
theorem allR_len (L : List HrT) : (allR L).length ≤ L.length := by rw [allR, List.length_map]; exact List.length_filter_le _ _

set_option maxHeartbeats 4000000 in
set_option maxRecDepth 100000 in
theorem rAll_calls (S : Nat → Prop) (R : Nat) (p : Option Addr) (c : Nat) (L : List Hr) (w : World) (h : RefG S w R p c L) (hl : L.length ≤ 8388608) :
    Calls Tryd.prog 10 #[.pointer (some ⟨R, 0, none⟩)] w (RetIntR (allR (L.map Hr.er)) w) := by
  have hR : Hid (∀ v w', w'.ownsRow w.heap.size 3 1 v (allR (L.map Hr.er)).length ((allR (L.map Hr.er)).map (.int .i64)) → Gr w w' → RetIntR (allR (L.map Hr.er)) w (.returned v) w') := fun v w' h1 h2 => ⟨v, rfl, h1, h2⟩
  generalize RetIntR (allR (L.map Hr.er)) w = Q at hR ⊢
  have H := Lib.hid h
  have hlc := h.sl.len
  have hcm := h.sl.cap
  clear h
  go_enter Tryd.func10, Tryd.ntmps10
  try simp only [List.append_eq, List.cons_append, List.nil_append]
  go_wp2_with fail
  go_loopg [3, 4] L.length (fun m u i wr => ∃ (k : Nat) (v : Value), v = u ∧ k ≤ L.length ∧ m = L.length - k ∧ i = .int .i64 k ∧ Hid (wr.ownsRow w.heap.size 3 1 v (allR ((L.take k).map Hr.er)).length ((allR ((L.take k).map Hr.er)).map (.int .i64))) ∧ Gr w wr)
  case atStart => exact ⟨0, _, rfl, Nat.zero_le _, rfl, rfl, World.ownsRow_nil _ _ _ 1, Gr.rfl' _⟩
  case round =>
    obtain ⟨k, v, rfl, hk, rfl, rfl, ho, gr⟩ := hrel
    have hb0 := (H.out.blk.gr gr).cell 0 (v := .slice p L.length c) rfl
    by_cases hlt : k < L.length
    · obtain ⟨b, o, rfl⟩ := H.out.sl.ptr (by omega)
      have c0 := Gr.at gr (H.out.sl.elem0 k hlt)
      have c9 := Gr.at gr (H.out.sl.elem k hlt 9 _ rfl)
      have Hs := Lib.hid (allR_snoc L k hlt)
      have Hle := Lib.hid (allR_len ((L.take k).map Hr.er))
      generalize L[k] = y at *
      have hsz := gr.size
      cases hyt : y.t with
      | false =>
        rw [hyt] at c9
        go_wp2_with fail
        go_roundg (L.length - (k + 1))
        case measure => omega
        case rel => exact ⟨k + 1, v, rfl, by omega, rfl, by go_num, by rw [Hs.out, hyt]; simpa using ho, gr⟩
      | true =>
        rw [hyt] at c9
        have hml : (allR ((L.take k).map Hr.er)).length ≤ L.length := by
          have := Hle.out
          rw [List.length_map, List.length_take] at this
          omega
        have Hml := Lib.hid hml
        clear hml
        go_wp2_with (first
          | (refine wpList_append_one rfl _ _ 40 3 rfl Tryd.underlying40 infoInt rfl (by decide) w.heap.size v (allR ((L.take k).map Hr.er)).length ((allR ((L.take k).map Hr.er)).map (.int .i64)) _ 1 [.int .i64 y.i] (by rfl) (by rfl) (ownsRow_gr ho.out (by go_grown)) (by simp; omega) rfl (by
               intro j u hu
               match j, hu with
               | 0, hu => cases hu; go_simp
               | j + 1, hu => simp at hu) (by
               intro u hu
               simp only [List.mem_cons, List.mem_nil_iff, or_false] at hu
               rw [hu]; rfl) (by have := Hml.out; simp only [maxLen]; omega) (by have := Hml.out; omega) ?_
             intro v' w' h2' h3 h4
             have gl := grownBy_below h3 (B := w.heap.size) (by simp; omega) fun j hj => (ho.out.lt j hj).1
             have gw' : Gr w w' := Below.trans (show Below w.heap.size w _ from Below.trans gr (by go_grown)) gl
             have HO := Lib.hid h2'
             clear h2' h3 h4 gl)
          | fail)
        go_roundg (L.length - (k + 1))
        case measure => omega
        case rel => exact ⟨k + 1, v', rfl, by omega, rfl, by go_num, by rw [Hs.out, hyt]; simpa using HO, gw'⟩
    · obtain rfl : k = L.length := by omega
      rw [List.take_length] at ho
      go_wp2_with fail
      exact hR.out _ _ ho.out gr

/-- Is there a head of such a name and so many Args? -/
def knownR (s : List UInt8) (n : Int) (L : List HrT) : Bool := L.any fun x => x.h.isOf s n
theorem key_iff {h : T} {s : ByteArray} {n : Int} : keyT h = (s, n) ↔ h.s = s.toList ∧ (h.l.length : Int) = n := by
  rw [keyT, Prod.mk.injEq]
  refine and_congr ⟨fun e => ?_, fun e => ?_⟩ Iff.rfl
  · rw [← e, ByteArray.toList_mk]
  · exact eq_of_toList (by rw [ByteArray.toList_mk]; exact e)
theorem known_any {R : List HrT} (hc : ∀ x ∈ R, x.h.callable = true) (s : ByteArray) (n : Int) : knownR s.toList n R = anyOf (s, n) R := by
  rw [knownR, anyOf]
  have : ∀ x ∈ R, x.h.isOf s.toList n = decide (keyT x.h = (s, n)) := by
    intro x hx
    have h1 := hc x hx
    rw [T.callable] at h1
    rw [T.isOf, Bool.or_comm, h1, Bool.true_and, Bool.eq_iff_iff]
    simp only [Bool.and_eq_true, decide_eq_true_eq]
    exact key_iff.symm
  clear hc
  induction R with
  | nil => rfl
  | cons y ys ih => rw [List.any_cons, List.any_cons, this y (by simp), ih fun x hx => this x (by simp [hx])]

set_option maxHeartbeats 4000000 in
set_option maxRecDepth 100000 in
theorem rKnown_calls (S : Nat → Prop) (R : Nat) (p : Option Addr) (c : Nat) (L : List Hr) (s : ByteArray) (n : Int) (w : World) (h : RefG S w R p c L) (hl : L.length ≤ 8388608) (hn : In64 n) :
    Calls Tryd.prog 27 #[.pointer (some ⟨R, 0, none⟩), .string s, .int .i64 n] w (Ret (.bool (knownR s.toList n (L.map Hr.er))) w) := by
  have hR : Hid (∀ v, knownR s.toList n (L.map Hr.er) = v → ∀ w', Gr w w' → Ret (.bool (knownR s.toList n (L.map Hr.er))) w (.returned (.bool v)) w') := fun v hv w' hg => ⟨by rw [hv], hg⟩
  generalize Ret (.bool (knownR s.toList n (L.map Hr.er))) w = Q at hR ⊢
  have H := Lib.hid h
  have Hn := Lib.hid hn
  have hlc := h.sl.len
  have hcm := h.sl.cap
  clear h hn
  go_enter Tryd.func27, Tryd.ntmps27
  try simp only [List.append_eq, List.cons_append, List.nil_append]
  go_wp2_with fail
  go_loopg [7] L.length (fun m i wr => ∃ k : Nat, k ≤ L.length ∧ m = L.length - k ∧ i = .int .i64 k ∧ Hid (knownR s.toList n (L.map Hr.er) = knownR s.toList n ((L.drop k).map Hr.er)) ∧ Gr w wr)
  case atStart => exact ⟨0, Nat.zero_le _, rfl, rfl, rfl, Gr.rfl' _⟩
  case round =>
    obtain ⟨k, hk, rfl, rfl, hkn, gr⟩ := hrel
    have hb0 := (H.out.blk.gr gr).cell 0 (v := .slice p L.length c) rfl
    by_cases hlt : k < L.length
    · obtain ⟨b, o, rfl⟩ := H.out.sl.ptr (by omega)
      have c1 := Gr.at gr (H.out.sl.elem k hlt 1 _ rfl)
      have c2 := Gr.at gr (H.out.sl.elem k hlt 2 _ rfl)
      have c3 := Gr.at gr (H.out.sl.elem k hlt 3 _ rfl)
      have c4 := Gr.at gr (H.out.sl.elem k hlt 4 _ rfl)
      have Hi := Lib.hid (Tm.In_below gr (H.out.sl.els _ (List.getElem_mem hlt)).1)
      have Hd : Hid (knownR s.toList n ((L.drop k).map Hr.er) = (L[k].h.erase.isOf s.toList n || knownR s.toList n ((L.drop (k + 1)).map Hr.er))) := by
        show _ = _
        rw [List.drop_eq_getElem_cons hlt]
        rfl
      generalize L[k] = y at *
      obtain ⟨yi, yh, yb, yt⟩ := y
      simp only at c1 c2 c3 c4 Hi Hd
      obtain ⟨bb, hbb⟩ : ∃ bb, yh.erase.isOf s.toList n = bb := ⟨_, rfl⟩
      have Hbb := Lib.hid hbb
      clear hbb
      have HV := Lib.hid (show yh.val = .agg #[.int .i64 yh.k, .int .i64 yh.n, .string yh.s, .slice yh.p yh.l.length yh.c] from rfl)
      go_upto_if 28 with (first
        | (go_at_call 47; rewrite [← HV.out]; refine (ris_calls yh s n _).mono ?_; rintro e w2 ⟨rfl, hg⟩; rewrite [Hbb.out]; have G2 := Lib.hid (Gr.trans gr hg); clear hg)
        | fail)
      cases bb with
      | true =>
        go_wp2_with fail
        exact hR.out _ (by rw [hkn.out, Hd.out, Hbb.out]; rfl) _ G2.out
      | false =>
        go_wp2_with fail
        go_roundg (L.length - (k + 1))
        case measure => omega
        case rel => exact ⟨k + 1, by omega, rfl, by go_num, by show _ = _; rw [hkn.out, Hd.out, Hbb.out, Bool.false_or], G2.out⟩
    · obtain rfl : k = L.length := by omega
      have hf : knownR s.toList n (L.map Hr.er) = false := by rw [hkn.out, List.drop_length]; rfl
      go_wp2_with fail
      exact hR.out _ hf _ gr

set_option maxHeartbeats 2000000 in
set_option maxRecDepth 100000 in
theorem numbers_calls (p q : Option Addr) (c d : Nat) (L : List Int) (w : World) (hx : IntSl w p c L) (hy : IntSl w q d L) :
    Calls Tryd.prog 8 #[.slice p L.length c, .slice q L.length d] w (Ret (.bool true) w) := by
  have hR : Hid (∀ b, true = b → ∀ w', Gr w w' → Ret (.bool true) w (.returned (.bool b)) w') := fun b hb w' hg => ⟨by rw [hb], hg⟩
  have hlc : L.length ≤ c := hx.1
  have hc : c ≤ 9223372036854775807 := hx.2.1
  have H := Lib.hid hx
  have K := Lib.hid hy
  generalize hQ : Ret (.bool true) w = Q at hR ⊢
  clear hQ hx hy
  go_enter Tryd.func8, Tryd.ntmps8
  try simp only [List.append_eq, List.cons_append, List.nil_append]
  go_wp2_with fail
  go_loopg [5] L.length (fun m i wr => ∃ k : Nat, k ≤ L.length ∧ m = L.length - k ∧ i = .int .i64 k ∧ Gr w wr)
  case atStart => exact ⟨0, Nat.zero_le _, rfl, rfl, Gr.rfl' _⟩
  case round =>
    obtain ⟨k, hk, rfl, rfl, gr⟩ := hrel
    by_cases hlt : k < L.length
    · obtain ⟨b, o, rfl, _, hr⟩ := (H.out.mono gr).ptr (by omega)
      obtain ⟨b', o', rfl, _, hr'⟩ := (K.out.mono gr).ptr (by omega)
      have h0 : L[k]? = some L[k] := List.getElem?_eq_getElem hlt
      have c0 := hr k _ h0
      have d0 := hr' k _ h0
      clear hr hr' h0
      generalize L[k] = y at *
      go_wp2_with fail
      go_quiet (fail)
      go_wp2_with fail
      go_roundg (L.length - (k + 1))
      case measure => omega
      case rel => exact ⟨k + 1, by omega, rfl, by go_num, gr.drewN _⟩
    · obtain rfl : k = L.length := by omega
      go_wp2_with fail
      exact hR.out _ rfl _ gr

end Go.Proofs.YtjdoflfdlhpbmaaDoor

namespace Go.Proofs.YtjdoflfdlhpbmaaDoor
open Go.RowKit Go.Maps Go.Lib

theorem beq_decide (a b : Int) : (a == b) = decide (a = b) := by rw [Bool.eq_iff_iff]; simp
/-- The clause that is there with such a number. -/
def getR (id : Int) (L : List HrT) : Option HrT := L.find? fun x => decide (x.i = id) && x.t
theorem getR_step (id : Int) (L : List Hr) (k : Nat) (hk : k < L.length) : getR id ((L.drop k).map Hr.er) = if (decide (L[k].i = id) && L[k].t) = true then some L[k].er else getR id ((L.drop (k + 1)).map Hr.er) := by
  rw [List.drop_eq_getElem_cons hk, List.map_cons, getR, List.find?_cons]
  show (match decide (L[k].i = id) && L[k].t with | true => _ | false => _) = _
  cases (decide (L[k].i = id) && L[k].t) <;> rfl
/-- A clause and no error, or none. -/
def RetRG (r : Option HrT) (w : World) (e : Ending) (w' : World) : Prop := Gr w w' ∧ ∃ h b : Tm, h.In w' ∧ b.In w' ∧ match r with
  | none => e = .returned (.tuple #[clVal h b, .int .i64 8]) ∧ h = zeroTm ∧ b = zeroTm
  | some x => e = .returned (.tuple #[clVal h b, .int .i64 0]) ∧ h.erase = x.h ∧ b.erase = x.b

set_option maxHeartbeats 4000000 in
set_option maxRecDepth 100000 in
theorem rGet_calls (S : Nat → Prop) (R : Nat) (p : Option Addr) (c : Nat) (L : List Hr) (id : Int) (w : World) (h : RefG S w R p c L) (hl : L.length ≤ 8388608) (_ : In64 id) :
    Calls Tryd.prog 25 #[.pointer (some ⟨R, 0, none⟩), .int .i64 id] w (RetRG (getR id (L.map Hr.er)) w) := by
  have hR0 : Hid (∀ w', getR id (L.map Hr.er) = none → Gr w w' → RetRG (getR id (L.map Hr.er)) w (.returned (.tuple #[clVal zeroTm zeroTm, .int .i64 8])) w') := fun w' h1 h2 => ⟨h2, zeroTm, zeroTm, zeroTm_in _, zeroTm_in _, by rw [h1]; exact ⟨rfl, rfl, rfl⟩⟩
  have hR1 : Hid (∀ w' h b x, getR id (L.map Hr.er) = some x → Gr w w' → Tm.In w' h → Tm.In w' b → h.erase = x.h → b.erase = x.b → RetRG (getR id (L.map Hr.er)) w (.returned (.tuple #[clVal h b, .int .i64 0])) w') := fun w' h b x h1 h2 h3 h4 h5 h6 => ⟨h2, h, b, h3, h4, by rw [h1]; exact ⟨rfl, h5, h6⟩⟩
  have hstep := Lib.hid (getR_step id L)
  have hfull : Hid (getR id (L.map Hr.er) = getR id ((L.drop 0).map Hr.er)) := rfl
  have hend : Hid (getR id ((L.drop L.length).map Hr.er) = none) := by show _ = _; rw [List.drop_length]; rfl
  generalize RetRG (getR id (L.map Hr.er)) w = Q at hR0 hR1 ⊢
  have H := Lib.hid h
  have hlc := h.sl.len
  have hcm := h.sl.cap
  clear h
  go_enter Tryd.func25, Tryd.ntmps25
  try simp only [List.append_eq, List.cons_append, List.nil_append]
  go_upto_region 1 with fail
  have hN : Blk8 (w.alloc (.cells #[.int .i64 0, .int .i64 0, .string ⟨#[]⟩, .slice none 0 0, .int .i64 0, .int .i64 0, .string ⟨#[]⟩, .slice none 0 0] 36)) w.heap.size (.int .i64 0) (.int .i64 0) (.string ⟨#[]⟩) (.slice none 0 0) (.int .i64 0) (.int .i64 0) (.string ⟨#[]⟩) (.slice none 0 0) := heap_alloc_new w _
  have gA : Gr w (w.alloc (.cells #[.int .i64 0, .int .i64 0, .string ⟨#[]⟩, .slice none 0 0, .int .i64 0, .int .i64 0, .string ⟨#[]⟩, .slice none 0 0] 36)) := by go_grown
  generalize w.alloc (.cells #[.int .i64 0, .int .i64 0, .string ⟨#[]⟩, .slice none 0 0, .int .i64 0, .int .i64 0, .string ⟨#[]⟩, .slice none 0 0] 36) = wA at *
  have HN := Lib.hid hN
  have hsA := hN.lt
  clear hN
  go_wp2_with fail
  go_loopg [6] L.length (fun m i wr => ∃ k : Nat, k ≤ L.length ∧ m = L.length - k ∧ i = .int .i64 k ∧ Hid (getR id (L.map Hr.er) = getR id ((L.drop k).map Hr.er)) ∧ wA = wr)
  case atStart => exact ⟨0, Nat.zero_le _, rfl, rfl, hfull, rfl⟩
  case round =>
    obtain ⟨k, hk, rfl, rfl, hkn, rfl⟩ := hrel
    have hb0 := (H.out.blk.gr gA).cell 0 (v := .slice p L.length c) rfl
    by_cases hlt : k < L.length
    · obtain ⟨b, o, rfl⟩ := H.out.sl.ptr (by omega)
      have cc : ∀ j v, (L[k].cells)[j]? = some v → wA.cell? ⟨b, o + k * 10 + j, none⟩ = some v := fun j v hv => Gr.at gA (H.out.sl.elem k hlt j v hv)
      have c0 := Gr.at gA (H.out.sl.elem0 k hlt)
      have c1 := cc 1 _ rfl
      have c2 := cc 2 _ rfl
      have c3 := cc 3 _ rfl
      have c4 := cc 4 _ rfl
      have c5 := cc 5 _ rfl
      have c6 := cc 6 _ rfl
      have c7 := cc 7 _ rfl
      have c8 := cc 8 _ rfl
      have c9 := cc 9 _ rfl
      have Hi := Lib.hid (And.intro (Tm.In_below gA (H.out.sl.els _ (List.getElem_mem hlt)).1) (Tm.In_below gA (H.out.sl.els _ (List.getElem_mem hlt)).2.1))
      have Hoo := Lib.hid (And.intro (H.out.sl.els _ (List.getElem_mem hlt)).1.on (H.out.sl.els _ (List.getElem_mem hlt)).2.1.on)
      have Hs := Lib.hid (hstep.out k hlt)
      clear cc
      generalize L[k] = y at *
      obtain ⟨yi, yh, yb, yt⟩ := y
      simp only [Hr.er] at c0 c1 c2 c3 c4 c5 c6 c7 c8 c9 Hi Hs Hoo
      cases hd : (yi == id) with
      | false =>
        have hs2 : Hid (getR id (L.map Hr.er) = getR id ((L.drop (k + 1)).map Hr.er)) := by show _ = _; rw [hkn.out, Hs.out, ← beq_decide, hd, if_neg (by simp)]
        go_wp2_with fail
        go_roundg (L.length - (k + 1))
        case measure => omega
        case rel => exact ⟨k + 1, by omega, rfl, by go_num, hs2, rfl⟩
      | true =>
        cases yt with
        | false =>
          have hs2 : Hid (getR id (L.map Hr.er) = getR id ((L.drop (k + 1)).map Hr.er)) := by show _ = _; rw [hkn.out, Hs.out, ← beq_decide, hd, if_neg (by simp)]
          go_wp2_with fail
          go_roundg (L.length - (k + 1))
          case measure => omega
          case rel => exact ⟨k + 1, by omega, rfl, by go_num, hs2, rfl⟩
        | true =>
          have hs2 : Hid (getR id (L.map Hr.er) = some ⟨yi, yh.erase, yb.erase, true⟩) := by show _ = _; rw [hkn.out, Hs.out, ← beq_decide, hd]; rfl
          obtain ⟨z0, z1, z2, z3, z4, z5, z6, z7⟩ := HN.out.cells
          obtain ⟨f0, f1, f2, f3, f4, f5, f6, f7⟩ := HN.out.open_
          go_wp2_with fail
          have kk := Kp.set8 (C := fun b => b = w.heap.size) (w := wA) (b := w.heap.size) rfl (.int .i64 yh.k) (.int .i64 yh.n) (.string yh.s) (.slice yh.p yh.l.length yh.c) (.int .i64 yb.k) (.int .i64 yb.n) (.string yb.s) (.slice yb.p yb.l.length yb.c)
          have hz := Blk8.set8 HN.out (.int .i64 yh.k) (.int .i64 yh.n) (.string yh.s) (.slice yh.p yh.l.length yh.c) (.int .i64 yb.k) (.int .i64 yb.n) (.string yb.s) (.slice yb.p yb.l.length yb.c)
          generalize ((((((((wA.setCell ⟨w.heap.size, 0, none⟩ (.int .i64 yh.k)).setCell ⟨w.heap.size, 1, none⟩ (.int .i64 yh.n)).setCell ⟨w.heap.size, 2, none⟩ (.string yh.s)).setCell ⟨w.heap.size, 3, none⟩ (.slice yh.p yh.l.length yh.c)).setCell ⟨w.heap.size, 4, none⟩ (.int .i64 yb.k)).setCell ⟨w.heap.size, 5, none⟩ (.int .i64 yb.n)).setCell ⟨w.heap.size, 6, none⟩ (.string yb.s)).setCell ⟨w.heap.size, 7, none⟩ (.slice yb.p yb.l.length yb.c)) = wZ at *
          clear z0 z1 z2 z3 z4 z5 z6 z7 f0 f1 f2 f3 f4 f5 f6 f7
          obtain ⟨z0, z1, z2, z3, z4, z5, z6, z7⟩ := hz.cells
          refine bodyPost_ret (v := .tuple #[clVal yh yb, .int .i64 0]) (by simp [results, Tryd.results25, go_sem, clVal, z0, z1, z2, z3, z4, z5, z6, z7]) rfl ?_
          exact hR1.out _ yh yb _ hs2.out (Below.trans gA (kk.below (fun b hb => by omega) gA.size)) (tm_kp Hi.out.1 Hoo.out.1 (fun b hb e => by omega) kk) (tm_kp Hi.out.2 Hoo.out.2 (fun b hb e => by omega) kk) rfl rfl
    · obtain rfl : k = L.length := by omega
      have hs2 : Hid (getR id (L.map Hr.er) = none) := by show _ = _; rw [hkn.out, hend.out]
      obtain ⟨z0, z1, z2, z3, z4, z5, z6, z7⟩ := HN.out.cells
      obtain ⟨f0, f1, f2, f3, f4, f5, f6, f7⟩ := HN.out.open_
      go_wp2_with fail
      have kk := Kp.set8 (C := fun b => b = w.heap.size) (w := wA) (b := w.heap.size) rfl (.int .i64 0) (.int .i64 0) (.string ⟨#[]⟩) (.slice none 0 0) (.int .i64 0) (.int .i64 0) (.string ⟨#[]⟩) (.slice none 0 0)
      have hz := Blk8.set8 HN.out (.int .i64 0) (.int .i64 0) (.string ⟨#[]⟩) (.slice none 0 0) (.int .i64 0) (.int .i64 0) (.string ⟨#[]⟩) (.slice none 0 0)
      generalize ((((((((wA.setCell ⟨w.heap.size, 0, none⟩ (.int .i64 0)).setCell ⟨w.heap.size, 1, none⟩ (.int .i64 0)).setCell ⟨w.heap.size, 2, none⟩ (.string ⟨#[]⟩)).setCell ⟨w.heap.size, 3, none⟩ (.slice none 0 0)).setCell ⟨w.heap.size, 4, none⟩ (.int .i64 0)).setCell ⟨w.heap.size, 5, none⟩ (.int .i64 0)).setCell ⟨w.heap.size, 6, none⟩ (.string ⟨#[]⟩)).setCell ⟨w.heap.size, 7, none⟩ (.slice none 0 0)) = wZ at *
      clear z0 z1 z2 z3 z4 z5 z6 z7 f0 f1 f2 f3 f4 f5 f6 f7
      obtain ⟨z0, z1, z2, z3, z4, z5, z6, z7⟩ := hz.cells
      refine bodyPost_ret (v := .tuple #[clVal zeroTm zeroTm, .int .i64 8]) (by simp [results, Tryd.results25, go_sem, clVal, zeroTm, Tm.k, Tm.n, Tm.s, Tm.p, Tm.c, Tm.l, z0, z1, z2, z3, z4, z5, z6, z7]) rfl ?_
      exact hR0.out _ hs2.out (Below.trans gA (kk.below (fun b hb => by omega) gA.size))
end Go.Proofs.YtjdoflfdlhpbmaaDoor

namespace Go.Proofs.YtjdoflfdlhpbmaaDoor
open Go.RowKit Go.Maps Go.Lib

theorem append_hrs {S : Nat → Prop} (w : World) (B : Nat) (v : Value) (n : Nat) (xs : List Value) (p : Option Addr) (c : Nat) (L : List Hr) (hs : HrSl S w p c L) (h : w.ownsRow B 75 10 v n xs) (hB : B ≤ w.heap.size) (hl : (n + L.length) * 128 ≤ 140737488351232) :
    ∃ v' w', (Builtin.append_ #[25, 25] 25 #[v, .slice p L.length c]).run Tryd.prog w = .ok v' w' ∧ w'.ownsRow B 75 10 v' (n + L.length) (xs ++ L.flatMap Hr.cells) ∧ w.grownBy w' v.ownBlock ∧ (v'.ownBlock = v.ownBlock ∨ v'.ownBlock = some w.heap.size) := by
  obtain ⟨i0, hi, hz0, hz1, hz2⟩ := info_parts infoHr
  obtain ⟨r1, r2, r3⟩ := hs.rw
  by_cases h0 : L = []
  · subst h0
    rcases h.2 with ⟨rfl, h1⟩ | ⟨g, cap, cur, rfl, hg0, hg, hnc, hr⟩
    · refine ⟨_, w, run_append_empty w _ _ _ i0 Tryd.underlying25 hi none 0 0 p c (Nat.le_refl _), by simpa using h, ⟨rfl, rfl, rfl, Nat.le_refl _, fun _ _ _ => rfl⟩, .inl rfl⟩
    · refine ⟨_, w, run_append_empty w _ _ _ i0 Tryd.underlying25 hi _ n cap p c hnc, by simpa using h, ⟨rfl, rfl, rfl, Nat.le_refl _, fun _ _ _ => rfl⟩, .inl rfl⟩
  · have hpos : 0 < L.length := List.length_pos_iff.2 h0
    rcases r3 with r3 | ⟨b, o, hp, r3⟩
    · simp only at r3; omega
    simp only at hp r1 r2 r3
    subst hp
    exact run_append_own_fresh (P := Tryd.prog) w B 25 25 75 i0 _ 10 128 Tryd.underlying25 hi hz0 hz1 hz2 rfl (by decide) v n xs h
      ⟨b, o, none⟩ L.length c (L.flatMap Hr.cells) r1 (fun j u hu => by rw [Go.WideShapes.add_plain]; exact r3 j u hu) r2 (by simp only [maxLen]; omega) (by omega) hB (by omega)
/-- Struck. -/
def Hr.no (x : Hr) : Hr := ⟨x.i, x.h, x.b, false⟩
theorem no_cells (x : Hr) : ∀ j v, (x.no.cells)[j]? = some v → (j = 9 ∧ v = .bool false) ∨ (j ≠ 9 ∧ (x.cells)[j]? = some v) := by
  intro j v hv
  simp only [Hr.no, Hr.cells, Tm.cells, List.cons_append, List.nil_append] at hv ⊢
  match j, hv with
  | 0, hv => exact .inr ⟨by decide, hv⟩
  | 1, hv => exact .inr ⟨by decide, hv⟩
  | 2, hv => exact .inr ⟨by decide, hv⟩
  | 3, hv => exact .inr ⟨by decide, hv⟩
  | 4, hv => exact .inr ⟨by decide, hv⟩
  | 5, hv => exact .inr ⟨by decide, hv⟩
  | 6, hv => exact .inr ⟨by decide, hv⟩
  | 7, hv => exact .inr ⟨by decide, hv⟩
  | 8, hv => exact .inr ⟨by decide, hv⟩
  | 9, hv => exact .inl ⟨rfl, by cases hv; rfl⟩
  | j + 10, hv => simp at hv
/-- A clause of a row of one's own is struck. -/
theorem HrSl.strike {S : Nat → Prop} {w : World} {g c : Nat} {cur : Array Value} {L : List Hr} (h : HrSl S w (some ⟨g, 0, none⟩) c L) (hg : w.heap[g]? = some (.cells cur 75)) (hon : ∀ x ∈ L, x.h.On (· ≠ g) ∧ x.b.On (· ≠ g)) (k : Nat) (hk : k < L.length) :
    HrSl S (w.setCell ⟨g, k * 10 + 9, none⟩ (.bool false)) (some ⟨g, 0, none⟩) c (L.set k L[k].no) ∧ Kp (fun b => b = g) w (w.setCell ⟨g, k * 10 + 9, none⟩ (.bool false)) := by
  have hkp : Kp (fun b => b = g) w (w.setCell ⟨g, k * 10 + 9, none⟩ (.bool false)) := Kp.set (C := fun b => b = g) rfl
  have hg2 := heap_setCell_same w g (k * 10 + 9) cur 75 (.bool false) hg
  refine ⟨⟨by rw [List.length_set]; exact h.len, by rw [List.length_set]; exact h.bd, h.cap, ?_, fun x hx => ?_⟩, hkp⟩
  · rcases h.row with rfl | ⟨b, o, hp, hS, hlt, hr⟩
    · simp at hk
    · cases hp
      refine .inr ⟨g, 0, rfl, hS, Nat.lt_of_lt_of_le hlt hkp.size, fun i x hx j v hv => ?_⟩
      have hi : i < L.length := by have := (List.getElem?_eq_some_iff.1 hx).1; rwa [List.length_set] at this
      have hjl : j < 10 := by rw [← rcells_ten x]; exact (List.getElem?_eq_some_iff.1 hv).1
      have hcur : ∀ y, L[i]? = some y → ∀ v, y.cells[j]? = some v → cur[0 + i * 10 + j]? = some v := fun y hy v hv => by
        have h1 := hr i y hy j v hv
        rwa [cell_of_row w g _ _ _ _ hg] at h1
      rw [cell_of_row _ g _ _ _ _ hg2]
      by_cases hik : i = k
      · subst hik
        rw [List.getElem?_set_self hi] at hx
        obtain rfl : L[i].no = x := Option.some.inj hx
        rcases no_cells _ j v hv with ⟨rfl, rfl⟩ | ⟨hj, hv⟩
        · have hlt2 : i * 10 + 9 < cur.size := by
            have h1 := hcur L[i] (List.getElem?_eq_getElem hi) (.bool L[i].t) rfl
            have := (Array.getElem?_eq_some_iff.1 h1).1
            omega
          rw [show 0 + i * 10 + 9 = i * 10 + 9 by omega, Array.getElem?_setIfInBounds_self_of_lt hlt2]
        · rw [Array.getElem?_setIfInBounds_ne (by omega)]
          exact hcur _ (List.getElem?_eq_getElem hi) v hv
      · rw [List.getElem?_set_ne (Ne.symm hik)] at hx
        rw [Array.getElem?_setIfInBounds_ne (by omega)]
        exact hcur x hx v hv
  · have key : ∀ y ∈ L, y.h.In (w.setCell ⟨g, k * 10 + 9, none⟩ (.bool false)) ∧ y.b.In (w.setCell ⟨g, k * 10 + 9, none⟩ (.bool false)) ∧ y.h.erase.formed = true ∧ y.b.erase.formed = true ∧ y.h.On S ∧ y.b.On S := fun y hy => by
      obtain ⟨h1, h2, h3, h4, h5, h6⟩ := h.els y hy
      exact ⟨tm_kp h1 (hon y hy).1 (fun b hb => hb) hkp, tm_kp h2 (hon y hy).2 (fun b hb => hb) hkp, h3, h4, h5, h6⟩
    rcases List.mem_or_eq_of_mem_set hx with hx | rfl
    · exact key x hx
    · have h9 := key L[k] (List.getElem_mem hk)
      exact h9

/-- What Remove leaves. -/
def RetRR (S : Nat → Prop) (R : Nat) (L : List Hr) (id : Int) (w : World) (e : Ending) (w' : World) : Prop :=
  (getR id (L.map Hr.er) = none ∧ e = .returned (.int .i64 8) ∧ Gr w w') ∨
  ∃ (p' : Option Addr) (c' k : Nat) (hk : k < L.length), L[k].i = id ∧ L[k].t = true ∧ getR id (L.map Hr.er) = some L[k].er ∧ e = .returned (.int .i64 0) ∧ RefG (fun b => S b ∨ w.heap.size ≤ b) w' R p' c' (L.set k L[k].no) ∧ Kp (fun b => b = R) w w'
def ownHr (B0 n : Nat) (xs : List Value) : VP := fun v w => w.ownsRow B0 75 10 v n xs
theorem ownHr_stable {B0 n : Nat} {xs : List Value} : ∀ v w w', ownHr B0 n xs v w → Gr w w' → ownHr B0 n xs v w' := fun _ _ _ h hg => ownsRow_gr h hg

set_option maxHeartbeats 8000000 in
set_option maxRecDepth 100000 in
theorem rRemove_calls (S : Nat → Prop) (R : Nat) (p : Option Addr) (c : Nat) (L : List Hr) (id : Int) (w : World) (h : RefG S w R p c L) (hSw : ∀ b, S b → b < w.heap.size) (hl : L.length ≤ 8388608) (_ : In64 id) :
    Calls Tryd.prog 23 #[.pointer (some ⟨R, 0, none⟩), .int .i64 id] w (RetRR S R L id w) := by
  have hR0 : Hid (∀ w', getR id (L.map Hr.er) = none → Gr w w' → RetRR S R L id w (.returned (.int .i64 8)) w') := fun w' h1 h2 => .inl ⟨h1, rfl, h2⟩
  have hR1 : Hid (∀ p' c' k (hk : k < L.length) w', L[k].i = id → L[k].t = true → getR id (L.map Hr.er) = some L[k].er → RefG (fun b => S b ∨ w.heap.size ≤ b) w' R p' c' (L.set k L[k].no) → Kp (fun b => b = R) w w' → RetRR S R L id w (.returned (.int .i64 0)) w') := fun p' c' k hk w' h1 h2 h3 h4 h5 => .inr ⟨p', c', k, hk, h1, h2, h3, rfl, h4, h5⟩
  have hstep := Lib.hid (getR_step id L)
  have hfull : Hid (getR id (L.map Hr.er) = getR id ((L.drop 0).map Hr.er)) := rfl
  have hend : Hid (getR id ((L.drop L.length).map Hr.er) = none) := by show _ = _; rw [List.drop_length]; rfl
  generalize RetRR S R L id w = Q at hR0 hR1 ⊢
  have H := Lib.hid h
  have hlc := h.sl.len
  have hcm := h.sl.cap
  have HSw := Lib.hid hSw
  clear h hSw
  go_enter Tryd.func23, Tryd.ntmps23
  try simp only [List.append_eq, List.cons_append, List.nil_append]
  go_wp2_with fail
  go_loopg [5] L.length (fun m i wr => ∃ k : Nat, k ≤ L.length ∧ m = L.length - k ∧ i = .int .i64 k ∧ Hid (getR id (L.map Hr.er) = getR id ((L.drop k).map Hr.er)) ∧ w = wr)
  case atStart => exact ⟨0, Nat.zero_le _, rfl, rfl, hfull, rfl⟩
  case round =>
    obtain ⟨k, hk, rfl, rfl, hkn, rfl⟩ := hrel
    have hb0 := H.out.blk.cell 0 (v := .slice p L.length c) rfl
    by_cases hlt : k < L.length
    · obtain ⟨b, o, rfl⟩ := H.out.sl.ptr (by omega)
      have c0 := H.out.sl.elem0 k hlt
      have c9 := H.out.sl.elem k hlt 9 _ rfl
      have Hs := Lib.hid (hstep.out k hlt)
      have Hfi : Hid ((L[k].i == id) = true → L[k].t = true → ∀ p' c' w', RefG (fun b => S b ∨ w.heap.size ≤ b) w' R p' c' (L.set k L[k].no) → Kp (fun b => b = R) w w' → Q (.returned (.int .i64 0)) w') := fun h1 h2 p' c' w' h4 h5 => hR1.out p' c' k hlt w' (by simpa using h1) h2 (by rw [hkn.out, Hs.out, ← beq_decide, h1, h2]; rfl) h4 h5
      have Hstr := Lib.hid (fun (S' : Nat → Prop) (W : World) (g cap : Nat) (cur : Array Value) (hh : HrSl S' W (some ⟨g, 0, none⟩) cap L) (h1 : W.heap[g]? = some (.cells cur 75)) (h2 : ∀ x ∈ L, x.h.On (· ≠ g) ∧ x.b.On (· ≠ g)) => hh.strike h1 h2 k hlt)
      have hno : L.set k L[k].no = L.set k L[k].no := rfl
      generalize hLs : L.set k L[k].no = Ls at *
      generalize L[k] = y at *
      cases hd : (y.i == id) with
      | false =>
        have hs2 : Hid (getR id (L.map Hr.er) = getR id ((L.drop (k + 1)).map Hr.er)) := by show _ = _; rw [hkn.out, Hs.out, ← beq_decide, hd, if_neg (by simp)]
        go_wp2_with fail
        go_roundg (L.length - (k + 1))
        case measure => omega
        case rel => exact ⟨k + 1, by omega, rfl, by go_num, hs2, rfl⟩
      | true =>
        cases hyt : y.t with
        | false =>
          rw [hyt] at c9
          have hs2 : Hid (getR id (L.map Hr.er) = getR id ((L.drop (k + 1)).map Hr.er)) := by show _ = _; rw [hkn.out, Hs.out, ← beq_decide, hd, hyt, if_neg (by simp)]
          go_wp2_with fail
          go_roundg (L.length - (k + 1))
          case measure => omega
          case rel => exact ⟨k + 1, by omega, rfl, by go_num, hs2, rfl⟩
        | true =>
          rw [hyt] at c9
          have hfin := Lib.hid (Hfi.out hd hyt)
          clear Hfi Hs hR1 hR0
          obtain ⟨v, w9, hr5, ho, hg5, hk5⟩ := append_hrs w w.heap.size (.slice none 0 0) 0 [] _ _ L H.out.sl (World.ownsRow_nil _ _ _ 10) (Nat.le_refl _) (by have := H.out.sl.bd; omega)
          rw [Nat.zero_add, List.nil_append] at ho
          have hg : Gr w w9 := grownBy_below hg5 (Nat.le_refl _) (fun j hj => by cases hj)
          rcases ho.2 with ⟨rfl, h0⟩ | ⟨g, cap, cur, rfl, hgB, hgc, hnc, hcm, hcs, htk⟩
          · omega
          have hRl := H.out.blk.lt
          have RB := H.out.blk.gr hg
          have r0 := RB.cell 0 (v := .slice (some ⟨b, o, none⟩) L.length c) rfl
          have f0 := RB.open_ 0
          have RB2 := RB.set 0 (.slice (some ⟨g, 0, none⟩) L.length cap)
          have k2 : Kp (fun x => x = R) w9 (w9.setCell ⟨R, 0, none⟩ (.slice (some ⟨g, 0, none⟩) L.length cap)) := Kp.set (C := fun x => x = R) rfl
          have HO := Lib.hid ho
          have Hg := Lib.hid hg
          have Hr5 := Lib.hid hr5
          clear RB ho htk hr5 hk5 hg5
          go_upto_region 6 with (first
            | (at_builtin; refine wpList_append_run w rfl _ _ _ _ rfl _ _ (by rfl) (by rfl) _ _ Hr5.out ?_)
            | fail)
          have hgl : g < w9.heap.size := (Array.getElem?_eq_some_iff.1 hgc).1
          have hgX : (w9.setCell ⟨R, 0, none⟩ (.slice (some ⟨g, 0, none⟩) L.length cap)).heap[g]? = some (.cells cur 75) := (k2.block g hgl (by omega)).trans hgc
          generalize w9.setCell ⟨R, 0, none⟩ (.slice (some ⟨g, 0, none⟩) L.length cap) = wX at *
          have hels : ∀ x ∈ L, x.h.In wX ∧ x.b.In wX ∧ x.h.erase.formed = true ∧ x.b.erase.formed = true ∧ x.h.On (fun b => S b ∨ w.heap.size ≤ b) ∧ x.b.On (fun b => S b ∨ w.heap.size ≤ b) := fun x hx => by
            obtain ⟨h1, h2, h3, h4, h5, h6⟩ := H.out.sl.els x hx
            exact ⟨tm_kp (Tm.In_below Hg.out h1) h5 (fun b hb (e : b = R) => H.out.sep (e ▸ hb)) k2, tm_kp (Tm.In_below Hg.out h2) h6 (fun b hb (e : b = R) => H.out.sep (e ▸ hb)) k2, h3, h4, h5.mono fun b hb => .inl hb, h6.mono fun b hb => .inl hb⟩
          obtain ⟨pX, cX, hpX, hslX⟩ := HrSl.of_own (S := fun b => S b ∨ w.heap.size ≤ b) (ownsRow_kpv HO.out k2 (fun j hj (e : j = R) => by cases hj; exact absurd (show g = R from e) (by omega))) (fun j h1 _ => .inr h1) H.out.sl.bd hels
          cases hpX
          have c9X := hslX.elem k hlt 9 _ rfl
          obtain ⟨hsl2, k3⟩ := Hstr.out _ _ g cap cur hslX hgX (fun x hx => ⟨(H.out.sl.els x hx).2.2.2.2.1.mono fun j hj e => by have := HSw.out j hj; omega, (H.out.sl.els x hx).2.2.2.2.2.mono fun j hj e => by have := HSw.out j hj; omega⟩)
          have f9 : wX.frozen? ⟨g, k * 10 + 9, none⟩ = false := BlkT.open_ (show BlkT wX g 75 cur from hgX) _
          rw [Nat.zero_add] at c9X
          have hX0 := RB2.cell 0 (v := .slice (some ⟨g, 0, none⟩) L.length cap) rfl
          have hkk : Kp (fun x => x = R) w (wX.setCell ⟨g, k * 10 + 9, none⟩ (.bool false)) := ((((Kp.of_gr Hg.out).trans k2).mono fun j h => Or.inl h).trans (k3.mono fun j h => (Or.inr h : j = R ∨ j = g))).weaken fun j hj h => h.elim (fun x => x) (fun e => by have e : j = g := e; omega)
          have hbf : BlkT (wX.setCell ⟨g, k * 10 + 9, none⟩ (.bool false)) R 27 #[.slice (some ⟨g, 0, none⟩) Ls.length cap] := by
            have := RB2.kp k3 (show ¬ R = g by omega)
            rw [← hLs, List.length_set]
            exact this
          have Hend := Lib.hid (hfin.out (some ⟨g, 0, none⟩) cap _ ⟨hbf, hsl2, fun h => h.elim H.out.sep (fun h => by omega)⟩ hkk)
          clear hb0 c0 c9 hsl2 k3 hslX hels hbf hkk Hstr hfin
          go_wp2_with fail
          exact Hend.out
    · obtain rfl : k = L.length := by omega
      have hs2 : getR id (L.map Hr.er) = none := by rw [hkn.out, hend.out]
      have Hend := Lib.hid (hR0.out w hs2 (Gr.rfl' _))
      clear hs2
      go_wp2_with fail
      exact Hend.out
end Go.Proofs.YtjdoflfdlhpbmaaDoor

namespace Go.Proofs.YtjdoflfdlhpbmaaDoor
open Go.RowKit Go.Maps Go.Lib

theorem same_k {t u : T} (h : T.same t u = true) : t.k = u.k := by
  obtain ⟨k, n, s, l⟩ := t
  obtain ⟨k', n', s', l'⟩ := u
  rw [T.same] at h
  simp only [Bool.and_eq_true, decide_eq_true_eq] at h
  exact h.1.1.1.1
theorem callable_f {t : T} (h : t.formed = true) : t.callable = (!(t.k == 1) && !(t.k == 2)) := by
  obtain ⟨k, n, s, l⟩ := t
  simp only [T.callable, T.k]
  by_cases h1 : k = 1
  · subst h1; rfl
  by_cases h2 : k = 2
  · subst h2; rfl
  by_cases h3 : k = 3
  · subst h3; rfl
  by_cases h4 : k = 4
  · subst h4; rfl
  · rw [T.formed] at h
    simp [h1, h2, h3, h4] at h

theorem plainErr_formed {h b : T} (he : plainErr reserved h b = 0) : h.formed = true ∧ b.formed = true := by
  unfold plainErr at he
  cases h1 : h.formed <;> cases h2 : b.formed <;> rw [h1, h2] at he
  · exact absurd he (by simp)
  · exact absurd he (by simp)
  · exact absurd he (by simp)
  · exact ⟨rfl, rfl⟩

theorem plain_callable {h b : T} (he : plainErr reserved h b = 0) : h.callable = true := by
  obtain ⟨ff, fb⟩ := plainErr_formed he
  have hcf := clause_formed ff fb
  unfold plainErr at he
  rw [ff, fb] at he
  simp only [Bool.and_self, if_true] at he
  cases hm : T.make reserved (clauseT h b) with
  | none => rw [hm] at he; exact absurd he (by simp)
  | some p =>
    obtain ⟨h', b'⟩ := p
    rw [hm] at he
    simp only at he
    have hs : T.same h' h = true := by
      cases hh : T.same h' h with
      | true => rfl
      | false => rw [hh] at he; simp at he
    unfold T.make at hm
    cases hb : T.body (clauseT h b).parts.2 with
    | none => rw [hb] at hm; simp at hm
    | some bb =>
      rw [hb] at hm
      simp only at hm
      split at hm
      · next hc =>
        rw [Bool.and_eq_true] at hc
        have hpf := (parts_formed hcf).1
        have hk := (map_head (swapF 0 (T.varsL [(clauseT h b).parts.1, bb] [])) hpf hc.1).1
        have h1 := congrArg Prod.fst (Option.some.inj hm)
        simp only at h1
        have h2 := same_k hs
        rw [← h1, hk] at h2
        have h3 := hc.1
        rw [callable_f hpf, h2] at h3
        rw [callable_f ff]
        exact h3
      · simp at hm
end Go.Proofs.YtjdoflfdlhpbmaaDoor
