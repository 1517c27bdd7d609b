/-
  domain.holds.
  A map that counts: which numbers have been met, and how many there are.
-/
import Derived.Test.YtbapmokbkjmdcaaDR06
namespace Go.Proofs.Ytbapmokbkjmdcaa
open Go.RowKit Go.Maps Go.Lib

/-- A function that says a number for each variable, and turns nothing. -/
def AtFn (g : FuncId) (cap : Array Value) (vs : List Int) (a : Int → Int) (w0 : World) : Prop :=
  (∀ (v : Int) (w : World), (callFunc g (#[.int .i64 v] ++ cap)).run Try.prog w = .ok (.enter g (#[.int .i64 v] ++ cap)) w) ∧ ∀ v ∈ vs, ∀ W : World, Gr w0 W → Calls Try.prog g (#[.int .i64 v] ++ cap) W (RetStill (.int .i64 (a v)) W)
theorem sumC_take {a : Int → Int} : ∀ {vs ks : List Int} {j : Nat} {v k : Int}, vs[j]? = some v → ks[j]? = some k → sumC a (vs.take (j + 1)) (ks.take (j + 1)) = sumC a (vs.take j) (ks.take j) + k * a v
  | v :: vs, k :: ks, 0, _, _, h1, h2 => by
    simp at h1 h2
    subst h1 h2
    simp [sumC]
  | v :: vs, k :: ks, j + 1, _, _, h1, h2 => by
    have ih := sumC_take (a := a) (vs := vs) (ks := ks) (j := j) (by simpa using h1) (by simpa using h2)
    rw [List.take_succ_cons, List.take_succ_cons, sumC, ih, List.take_succ_cons, List.take_succ_cons, sumC]
    omega
  | [], _, _, _, _, h1, _ => by simp at h1
  | _ :: _, [], _, _, _, _, h2 => by simp at h2
theorem wrap_in {n : Int} (h : -9223372036854775808 ≤ n ∧ n ≤ 9223372036854775807) : IntKind.i64.wrap n = n := by rw [IntKind.wrap_i64]; omega
theorem mul_bound {k x : Int} (hk : -1000 ≤ k ∧ k ≤ 1000) (hx : -1000000 ≤ x ∧ x ≤ 1000000) : -1000000000 ≤ k * x ∧ k * x ≤ 1000000000 := by
  have h1 : (k * x).natAbs ≤ 1000 * 1000000 := by rw [Int.natAbs_mul]; exact Nat.mul_le_mul (by omega) (by omega)
  omega
/-- The facts on a sum that may be. -/
theorem ok_sum {c : Con} {n : Nat} (h : c.ok n = true) (hk : c.kind = 1) : 1 ≤ c.vars.length ∧ c.vars.length ≤ 4 ∧ c.coefs.length = c.vars.length ∧ (∀ k ∈ c.coefs, -1000 ≤ k ∧ k ≤ 1000) ∧ 1 ≤ c.op ∧ c.op ≤ 3 := by
  simp only [Con.ok, hk, if_true, Bool.and_eq_true, decide_eq_true_eq, within, List.all_eq_true] at h
  obtain ⟨_, ⟨⟨⟨⟨⟨⟨h1, h2⟩, h3⟩, h4⟩, h5⟩, h6⟩, _⟩, _⟩ := h
  exact ⟨h1, h2, h3, h4, h5, h6⟩
theorem sat_sum {c : Con} (a : Int → Int) (hk : c.kind = 1) : c.sat a = if c.op = 1 then decide (sumC a c.vars c.coefs = c.c) else if c.op = 2 then decide (sumC a c.vars c.coefs ≤ c.c) else decide (sumC a c.vars c.coefs ≠ c.c) := by
  unfold Con.sat; rw [if_pos hk]

set_option maxHeartbeats 4000000 in
set_option maxRecDepth 100000 in
theorem holds_sum (x : Cn) (n : Nat) (g : FuncId) (cap : Array Value) (a : Int → Int) (w0 w : World) (hx : x.In w) (hok : x.con.ok n = true) (hk : x.k = 1) (hw : Gr w0 w) (hf : AtFn g cap x.vs a w0) (ha : ∀ v ∈ x.vs, -1000000 ≤ a v ∧ a v ≤ 1000000) :
    Calls Try.prog 61 #[x.val, .func (.func g) #[] cap] w (Ret (.bool (x.con.sat a)) w) := by
  have hR : Hid (∀ b, x.con.sat a = b → ∀ w', Gr w w' → Ret (.bool (x.con.sat a)) w (.returned (.bool b)) w') := fun b hb w' hg => ⟨by rw [hb], hg⟩
  have HS := Lib.hid (show x.con.sat a = if x.op = 1 then decide (sumC a x.vs x.cs = x.c) else if x.op = 2 then decide (sumC a x.vs x.cs ≤ x.c) else decide (sumC a x.vs x.cs ≠ x.c) from sat_sum a hk)
  obtain ⟨l1, l4, lc, hcf, _, _⟩ := ok_sum hok hk
  have l4 : x.vs.length ≤ 4 := l4
  have lc : x.cs.length = x.vs.length := lc
  have HC : Hid (∀ k ∈ x.cs, -1000 ≤ k ∧ k ≤ 1000) := hcf
  have HKK := Lib.hid hk
  clear hk
  have HA0 := Lib.hid ha
  generalize Ret (.bool (x.con.sat a)) w = Q at hR ⊢
  generalize x.con.sat a = r at *
  have HV := Lib.hid hx.vars
  have HK := Lib.hid hx.coefs
  have Hcall := Lib.hid hf.2
  have hq := hf.1
  have HW := Lib.hid hw
  have Hc := Lib.hid hx.c
  have hlc := HV.out.1
  have hcc := HV.out.2.1
  have hlc2 := HK.out.1
  have hcc2 := HK.out.2.1
  have LC := Lib.hid lc
  clear hf hw hx l1 hcf ha hok lc
  rw [show x.val = .agg #[.int .i64 x.k, .slice x.vp x.vs.length x.vc, .slice x.cp x.cs.length x.cc, .int .i64 x.op, .int .i64 x.c] from rfl]
  go_enter Try.func61, Try.ntmps61
  try simp only [List.append_eq, List.cons_append, List.nil_append]
  go_upto_region 1 with fail
  have hB := CnBlk.new w x
  have gA : Gr w (w.alloc (.cells #[.int .i64 x.k, .slice x.vp x.vs.length x.vc, .slice x.cp x.cs.length x.cc, .int .i64 x.op, .int .i64 x.c] 42)) := by go_grown
  generalize w.alloc (.cells #[.int .i64 x.k, .slice x.vp x.vs.length x.vc, .slice x.cp x.cs.length x.cc, .int .i64 x.op, .int .i64 x.c] 42) = wA at *
  obtain ⟨b0, b1, b2, b3, b4⟩ := hB.cells
  clear hB
  have HB2 := Lib.hid b2
  have HB3 := Lib.hid b3
  have HB4 := Lib.hid b4
  generalize x.vs = vs at *
  generalize x.vp = vp at *
  generalize x.vc = vc at *
  generalize x.cs = cs at *
  generalize x.cp = cp at *
  generalize x.cc = cc at *
  generalize x.op = xo at *
  generalize x.c = xc at *
  have lc := LC.out
  have hk := HKK.out
  rw [hk] at b0 ⊢
  clear hk HKK
  have HG := Lib.hid gA
  go_upto_region 5 with fail
  clear b0 b1 b2 b3 b4
  have LC2 := Lib.hid lc
  clear lc
  go_loopg [5, 19] vs.length (fun k s i wr => ∃ j : Nat, j ≤ vs.length ∧ k = vs.length - j ∧ i = .int .i64 j ∧ (∃ S, s = .int .i64 S ∧ Hid (S = sumC a (vs.take j) (cs.take j)) ∧ -(j * 1000000000 : Int) ≤ S ∧ S ≤ j * 1000000000) ∧ Gr wA wr)
  case atStart => exact ⟨0, Nat.zero_le _, rfl, rfl, ⟨0, rfl, rfl, by omega, by omega⟩, Gr.rfl' _⟩
  case round =>
    obtain ⟨j, hj, rfl, rfl, ⟨S, rfl, hS, hS1, hS2⟩, gq⟩ := hrel
    have GQ := Lib.hid gq
    by_cases hlt : j < vs.length
    · obtain ⟨y, hy⟩ : ∃ y, vs[j]? = some y := ⟨_, List.getElem?_eq_getElem hlt⟩
      obtain ⟨k, hky⟩ : ∃ k, cs[j]? = some k := ⟨_, List.getElem?_eq_getElem (by rw [LC2.out]; exact hlt)⟩
      obtain ⟨b, o, rfl, _, hr⟩ := (HV.out.mono (HG.out.trans gq)).ptr (by omega)
      obtain ⟨b', o', rfl, _, hr'⟩ := (HK.out.mono (HG.out.trans gq)).ptr (by have := LC2.out; omega)
      have c0 := hr j _ hy
      have c1 := hr' j _ hky
      have c2 := Gr.at gq HB2.out
      have hm := List.mem_of_getElem? hy
      have hav := HA0.out y hm
      have hkv := HC.out k (List.mem_of_getElem? hky)
      have hjc : (j : Int) < (cs.length : Int) := by have := LC2.out; omega
      have hprod := mul_bound hkv hav
      have HM := Lib.hid hm
      have hqy := hq y
      have HN := Lib.hid (show S + k * a y = sumC a (vs.take (j + 1)) (cs.take (j + 1)) by rw [sumC_take hy hky, hS.out])
      clear hr hr' hy hky hm
      go_upto_region 7 with fail
      refine wp_region_rely_tail 11 [fx (.int .i64 S), fx (.pointer (some ⟨w.heap.size, 2, none⟩)), fx (.slice (some ⟨b', o', none⟩) cs.length cc), fx (.int .i64 j), fx (.pointer (some ⟨b', o' + j, none⟩)), fx (.int .i64 k), fx (.func (.func g) #[] cap), fx (.int .i64 y), fx (.int .i64 (a y)), fx (.int .i64 (k * a y)), fx (.int .i64 (S + k * a y))]
        (by kernel_rfl) (by kernel_rfl) (by decide) (by repeat (first | exact Stable.nil | refine Stable.fix ?_)) ?_ ?_
      · refine ⟨?_, ?_, ?_, ?_, ?_, ?_, ?_, ?_, ?a8, ?_, ?_, trivial⟩
        all_goals
          intro fr wz hg hold
          have h5 : fr.tmps[5]?.getD undef = .int .i64 S := hold 5 rfl
          have h2 : fr.tmps[2]?.getD undef = .pointer (some ⟨w.heap.size, 0, none⟩) := hold 2 rfl
          have h6 : fr.tmps[6]?.getD undef = .int .i64 j := hold 6 rfl
          have h1 : fr.tmps[1]?.getD undef = .func (.func g) #[] cap := hold 1 rfl
          have h7 : fr.tmps[7]?.getD undef = .int .i64 y := hold 7 rfl
          clear hold
          have C1 := Gr.at hg c1
          have C2 := Gr.at hg c2
          clear c1 c2
          simp [predsImp, Region.binds, dstAt, fx]
          intros
          first
            | (rw [if_pos (by simp [*])]
               intro K hK)
            | (rename_i K hK)
          go_simp
        case a8 =>
          refine (Hcall.out y HM.out _ (HW.out.trans (HG.out.trans (GQ.out.trans hg)))).mono ?_
          rintro e w9 ⟨rfl, rfl⟩
          exact hK _ _ rfl (Gr.rfl' _)
        all_goals first | exact hK _ _ rfl (Gr.rfl' _) | exact hK _ _ (congrArg (Value.int .i64) (wrap_in (by omega))) (Gr.rfl' _)
      · intro wz hg
        rintro _ rfl _ rfl _ rfl _ rfl _ rfl _ rfl _ rfl _ rfl _ rfl _ rfl _ rfl
        simp only [finAll, Act.put, List.setIfInBounds_toArray, List.set_cons_succ, List.set_cons_zero, List.drop_succ_cons, List.drop_zero, List.take_zero]
        clear c0 c1 c2
        go_wp2_with fail
        go_roundg (vs.length - (j + 1))
        case measure => omega
        case rel => exact ⟨j + 1, by omega, rfl, by go_num, ⟨_, rfl, HN, by omega, by omega⟩, GQ.out.trans hg⟩
    · obtain rfl : j = vs.length := by omega
      have hS' : S = sumC a vs cs := by
        have := hS.out
        rw [List.take_of_length_le (Nat.le_refl _), List.take_of_length_le (by have := LC2.out; omega)] at this
        exact this
      rw [← hS'] at HS
      have b2 := Gr.at gq HB3.out
      have b4 := Gr.at gq HB4.out
      clear hS hS'
      have hin : In64 S := ⟨by omega, by omega⟩
      by_cases e1 : xo = 1
      · have hv : Hid (r = decide (S = xc)) := HS.out.trans (if_pos e1)
        subst e1
        cases hd : decide (S = xc) with
        | true =>
          have hd' := of_decide_eq_true hd
          have HF := Lib.hid (hv.out.trans hd)
          clear hd
          go_wp2_with fail
          exact hR.out _ HF.out _ (HG.out.trans gq)
        | false =>
          have hd' := of_decide_eq_false hd
          have hb1 : (S == xc) = false := beq_eq_false_iff_ne.2 hd'
          have HF := Lib.hid (hv.out.trans hd)
          clear hd
          go_wp2_with fail
          exact hR.out _ HF.out _ (HG.out.trans gq)
      · by_cases e2 : xo = 2
        · have hv : Hid (r = decide (S ≤ xc)) := HS.out.trans ((if_neg e1).trans (if_pos e2))
          subst e2
          cases hd : decide (S ≤ xc) with
          | true =>
            have hd' := of_decide_eq_true hd
            have HF := Lib.hid (hv.out.trans hd)
            clear hd
            go_wp2_with fail
            exact hR.out _ HF.out _ (HG.out.trans gq)
          | false =>
            have hd' := of_decide_eq_false hd
            have HF := Lib.hid (hv.out.trans hd)
            clear hd
            go_wp2_with fail
            exact hR.out _ HF.out _ (HG.out.trans gq)
        · have hv : Hid (r = decide (S ≠ xc)) := HS.out.trans ((if_neg e1).trans (if_neg e2))
          cases hd : decide (S ≠ xc) with
          | true =>
            have hd' := of_decide_eq_true hd
            have hb1 : (S == xc) = false := beq_eq_false_iff_ne.2 hd'
            have hb2 : (S != xc) = true := by rw [bne, hb1]; rfl
            have HF := Lib.hid (hv.out.trans hd)
            clear hd
            go_wp2_with fail
            exact hR.out _ HF.out _ (HG.out.trans gq)
          | false =>
            have hd' := of_decide_eq_false hd
            have hb1 : (S == xc) = true := beq_iff_eq.2 (Decidable.not_not.1 hd')
            have hb2 : (S != xc) = false := by rw [bne, hb1]; rfl
            have HF := Lib.hid (hv.out.trans hd)
            clear hd
            go_wp2_with fail
            exact hR.out _ HF.out _ (HG.out.trans gq)
end Go.Proofs.Ytbapmokbkjmdcaa

namespace Go.Proofs.Ytbapmokbkjmdcaa
open Go.RowKit Go.Maps Go.Lib

/-- Each of them once. -/
def once : List Int → List Int
  | [] => []
  | x :: xs => if x ∈ xs then once xs else x :: once xs
theorem mem_once {n : Int} : ∀ {L : List Int}, n ∈ once L ↔ n ∈ L
  | [] => Iff.rfl
  | x :: xs => by
    rw [once]
    by_cases h : x ∈ xs
    · rw [if_pos h, mem_once, List.mem_cons]
      exact ⟨.inr, fun h' => h'.elim (fun e => e ▸ h) id⟩
    · rw [if_neg h, List.mem_cons, List.mem_cons, mem_once]
theorem once_nodup : ∀ L : List Int, (once L).Nodup
  | [] => List.nodup_nil
  | x :: xs => by
    rw [once]
    by_cases h : x ∈ xs
    · rw [if_pos h]; exact once_nodup xs
    · rw [if_neg h, List.nodup_cons]; exact ⟨fun h' => h (mem_once.1 h'), once_nodup xs⟩
theorem once_le : ∀ L : List Int, (once L).length ≤ L.length
  | [] => Nat.le_refl _
  | x :: xs => by
    rw [once]
    have := once_le xs
    by_cases h : x ∈ xs
    · rw [if_pos h, List.length_cons]; omega
    · rw [if_neg h, List.length_cons, List.length_cons]; omega
theorem once_len : ∀ {L : List Int}, (once L).length = L.length ↔ L.Nodup
  | [] => by simp [once]
  | x :: xs => by
    rw [once, List.nodup_cons]
    by_cases h : x ∈ xs
    · rw [if_pos h, List.length_cons]
      have := once_le xs
      exact ⟨fun e => by omega, fun e => absurd h e.1⟩
    · rw [if_neg h, List.length_cons, List.length_cons, Nat.add_right_cancel_iff, once_len]
      exact ⟨fun e => ⟨h, e⟩, fun e => e.2⟩
theorem same_len {L M : List Int} (hL : L.Nodup) (hM : M.Nodup) (h : ∀ x, x ∈ L ↔ x ∈ M) : L.length = M.length :=
  Nat.le_antisymm (List.Nodup.length_le_of_subset hL fun x hx => (h x).1 hx) (List.Nodup.length_le_of_subset hM fun x hx => (h x).2 hx)

/-- Block b is a map that counts: just these numbers have been met. -/
def Seen (k : TypeId) (w : World) (b : Nat) (L : List Int) : Prop :=
  ∃ f : Int → Option Value, GMap k (Value.int .i64) w b f ∧ Stm (Value.int .i64) w b ∧ (∀ x v, f x = some v → ∃ z, v = .int .i64 z) ∧ ∀ x, (f x).isSome = true ↔ x ∈ L
section
variable {k : TypeId} {w w' : World} {b : Nat} {L : List Int}
theorem Seen.gr (h : Seen k w b L) (hg : Gr w w') : Seen k w' b L := by
  obtain ⟨f, h1, h2, h3⟩ := h
  exact ⟨f, h1.gr hg, h2.gr hg, h3⟩
theorem Seen.kp {C : Nat → Prop} (h : Seen k w b L) (hg : Kp C w w') (hb : ¬ C b) : Seen k w' b L := by
  obtain ⟨f, h1, h2, h3⟩ := h
  exact ⟨f, h1.kp hg hb, h2.kp hg hb, h3⟩
theorem Seen.made (k : TypeId) (w : World) : Seen k (w.alloc (.map #[] 0)) w.heap.size [] :=
  ⟨fun _ => none, GMap.made _ _ _, Stm.made _ _, (fun _ _ h => by cases h), fun x => by simp⟩
theorem Seen.lt (h : Seen k w b L) : b < w.heap.size := by
  obtain ⟨f, h1, _⟩ := h
  exact h1.lt
theorem zeroInt (w : World) : (zeroValue 3).run Try.prog w = .ok (.int .i64 0) w := by kernel_rfl
set_option maxRecDepth 100000 in
theorem Seen.run (h : Seen k w b L) (hk : Try.prog.underlying k = some (.int .i64)) {t : TypeId} (ht : Try.prog.underlying t = some (.map k 3)) {n : Int} (hn : In64 n) :
    ∃ z, (Instr.lookup t (.map (some b)) (.int .i64 n) false).run Try.prog w = .ok (.int .i64 z) w := by
  obtain ⟨f, h1, _, h3, _⟩ := h
  have hr := (GMap.run h1 (int_keyed hk) ht (zeroInt w) (x := n) (keyOf_int_mk hk (wf_64 hn))).1
  cases hf : f n with
  | none => rw [hf] at hr; exact ⟨0, hr⟩
  | some v =>
    obtain ⟨z, rfl⟩ := h3 n v hf
    rw [hf] at hr; exact ⟨z, hr⟩
set_option maxRecDepth 100000 in
theorem Seen.put (h : Seen k w b L) (hk : Try.prog.underlying k = some (.int .i64)) {t : TypeId} (ht : Try.prog.underlying t = some (.map k 3)) {n : Int} (hn : In64 n) (z : Int) :
    ∃ w', (Instr.mapUpdate t (.map (some b)) (.int .i64 n) (.int .i64 z)).run Try.prog w = .ok () w' ∧ Seen k w' b (n :: L) ∧ w.grownBy w' (some b) := by
  obtain ⟨f, h1, h2, h3, h4⟩ := h
  obtain ⟨w', hr, hg, hgb, hs⟩ := GMap.updateS h1 h2 (int_keyed hk) ht (x := n) (keyOf_int_mk hk (wf_64 hn)) (fun y => int_inj y n) (.int .i64 z) (g := fun y => if y = n then some (.int .i64 z) else f y) (if_pos rfl) (fun y hy => if_neg hy)
  refine ⟨w', hr, ⟨_, hg, hs, fun x v hx => ?_, fun x => ?_⟩, hgb⟩
  · by_cases e : x = n
    · rw [if_pos e] at hx; cases hx; exact ⟨z, rfl⟩
    · rw [if_neg e] at hx; exact h3 x v hx
  · by_cases e : x = n
    · rw [if_pos e]; simp [e]
    · rw [if_neg e, h4 x, List.mem_cons]
      exact ⟨.inr, fun h => h.resolve_left e⟩
/-- How many there are. -/
theorem Seen.len (h : Seen k w b L) : ∃ (E : Array MapEntry) (c : Nat), w.heap[b]? = some (.map E c) ∧ E.size = (once L).length := by
  obtain ⟨f, ⟨E, c, hb, hk, hn, hf⟩, ⟨E', c', hb', hst, _⟩, h3, h4⟩ := h
  rw [hb] at hb'; cases hb'
  refine ⟨E, c, hb, ?_⟩
  have hex : ∀ l : List MapEntry, (∀ e ∈ l, (∃ x : Int, e.key = Value.int .i64 x) ∧ e.born < c) → ∃ ks : List Int, l.map (·.key) = ks.map (Value.int .i64) := by
    intro l
    induction l with
    | nil => intro _; exact ⟨[], rfl⟩
    | cons e l ih =>
      intro hl
      obtain ⟨ks, hks⟩ := ih fun e he => hl e (List.mem_cons_of_mem _ he)
      obtain ⟨x, hx⟩ := (hl e (List.mem_cons_self ..)).1
      exact ⟨x :: ks, by rw [List.map_cons, List.map_cons, hks, hx]⟩
  obtain ⟨ks, hks⟩ := hex E.toList hst
  have hnd : ks.Nodup := by
    rw [hks] at hn
    rw [List.Nodup, List.pairwise_map] at hn
    exact hn.imp fun h e => h (by rw [e])
  have hsz : E.size = ks.length := by
    have := congrArg List.length hks
    simpa using this
  rw [hsz]
  refine same_len hnd (once_nodup L) fun x => ?_
  rw [mem_once, ← h4 x]
  constructor
  · intro hx
    have hm : Value.int .i64 x ∈ E.toList.map (·.key) := by rw [hks]; exact List.mem_map.2 ⟨x, hx, rfl⟩
    obtain ⟨e, he, hek⟩ := List.mem_map.1 hm
    rw [(hf x e.val).2 ⟨e, he, hek, rfl⟩]; rfl
  · intro hx
    obtain ⟨v, hv⟩ := Option.isSome_iff_exists.1 hx
    obtain ⟨e, he, hek, _⟩ := (hf x v).1 hv
    have hm : Value.int .i64 x ∈ ks.map (Value.int .i64) := by rw [← hks]; exact List.mem_map.2 ⟨e, he, hek⟩
    obtain ⟨y, hy, hxy⟩ := List.mem_map.1 hm
    cases hxy
    exact hy
set_option maxRecDepth 100000 in
theorem Seen.len_run (h : Seen k w b L) {t : TypeId} (ht : Try.prog.underlying t = some (.map (Try.prog.mapKeyOf t) (Try.prog.mapElemOf t))) (ty : TypeId) : (Builtin.len_ #[t] ty #[.map (some b)]).run Try.prog w = .ok (.int .i64 ((once L).length : Int)) w := by
  obtain ⟨E, c, hb, hs⟩ := h.len
  rw [← hs]
  exact run_len_map w t ty b E c ht hb
end
end Go.Proofs.Ytbapmokbkjmdcaa
