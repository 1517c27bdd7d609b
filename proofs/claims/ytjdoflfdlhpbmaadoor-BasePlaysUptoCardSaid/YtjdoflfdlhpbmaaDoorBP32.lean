/-
  hornlaw.based where a clause is struck.
  hornlaw.based: all kinds together.
  hornlaw.BasePlays: the walk.
-/
import Derived.Test.YtjdoflfdlhpbmaaDoorBP29
import Derived.Test.YtjdoflfdlhpbmaaDoorBP31
import Derived.Test.YtjdoflfdlhpbmaaDoorBP30
import Derived.Test.YtjdoflfdlhpbmaaDoorBP18
namespace Go.Proofs.YtjdoflfdlhpbmaaDoor
open Go.RowKit Go.Maps Go.Lib

def remOk (st : BSt) (id : Int) (st' : BSt) : Prop := match st.wh id with
  | none => st' = st
  | some k => Removed st id k st'
def remOk2 (L : List Hr) (id : Int) (L' : List Hr) : Prop := L'.map Hr.er = (L.map Hr.er).map (HrT.off id) ∧ (∀ y ∈ L', ∃ z ∈ L, y.h = z.h) ∧ L'.length = L.length
theorem off_none {id : Int} {R : List HrT} (h : getR id R = none) : R.map (HrT.off id) = R := by
  rw [getR, List.find?_eq_none] at h
  conv => rhs; rw [← List.map_id R]
  refine List.map_congr_left fun x hx => ?_
  have h1 := h x hx
  obtain ⟨i, hh, bb, t⟩ := x
  unfold HrT.off
  by_cases e : i = id
  · subst e
    cases t
    · simp
    · simp at h1
  · simp [e]
theorem off_set {id : Int} {L : List Hr} (hnd : ((L.map Hr.er).map (·.i)).Nodup) (k : Nat) (hk : k < L.length) (hi : L[k].i = id) : remOk2 L id (L.set k L[k].no) := by
  refine ⟨?_, fun y hy => ?_, List.length_set⟩
  · apply List.ext_getElem (by simp)
    intro j h1 h2
    simp only [List.length_map, List.length_set] at h1
    simp only [List.getElem_map]
    rw [List.getElem_set]
    by_cases e : k = j
    · subst e
      rw [if_pos rfl, HrT.off, if_pos (show L[k].er.i = id from hi)]
      rfl
    · rw [if_neg e, HrT.off, if_neg]
      intro (h3 : L[j].i = id)
      have h4 : (L.map Hr.er).map (·.i) = L.map (·.i) := by rw [List.map_map]; rfl
      rw [h4] at hnd
      have := (List.getElem_inj (i := k) (j := j) (h₀ := by simpa using hk) (h₁ := by simpa using h1) hnd).1 (by rw [List.getElem_map, List.getElem_map, hi, h3])
      exact e this
  · rcases List.mem_or_eq_of_mem_set hy with hy | rfl
    · exact ⟨y, hy, rfl⟩
    · exact ⟨L[k], List.getElem_mem hk, rfl⟩
theorem rem_agree {st st' : BSt} {L L' : List Hr} {id : Int} (ha : Agree st (L.map Hr.er)) (h1 : remOk st id st') (h2 : remOk2 L id L') : Agree st' (L'.map Hr.er) := by
  rw [h2.1]
  unfold remOk at h1
  cases hw : st.wh id with
  | none =>
    rw [hw] at h1
    subst h1
    rw [off_none]
    · exact ha
    · rw [getR, List.find?_eq_none]
      intro x hx h4
      rw [Bool.and_eq_true, decide_eq_true_eq] at h4
      exact ha.absent hw x hx h4
  | some k =>
    rw [hw] at h1
    exact ha.remove hw h1
section
variable {lo : Nat} {w : World} {s : PlaySt} {id : Int}
theorem rem_base (h : PlM lo w s) (hid : In64 id) (hl : s.st.last ≤ 8388608) : Calls Tryd.prog 22 #[.pointer (some ⟨s.B, 0, none⟩), .int .i64 id] w fun e w' => e = .returned (.int .i64 (if (s.st.wh id).isSome then 0 else 8)) ∧ ∃ va' st', remOk s.st id st' ∧ PlM lo w' { s with va := va', st := st' } ∧ Kp s.D w w' := by
  refine (remove_gen (PlS w s.D) s.B s.M1 s.M2 s.va s.st id w h.b (fun x hx => hx.1) hid hl).mono ?_
  intro e w' hr
  unfold RetRemG at hr
  cases hw : s.st.wh id with
  | none =>
    rw [hw] at hr
    exact ⟨hr.1, s.va, s.st, by unfold remOk; rw [hw], h.gr hr.2, Kp.of_gr hr.2⟩
  | some k =>
    rw [hw] at hr
    obtain ⟨va', st', h1, h2, h3, h4, h5⟩ := hr
    exact ⟨h2, va', st', by unfold remOk; rw [hw]; exact h1, h.base h3 h4 h5, h4.mono fun b hb => .inl hb⟩
theorem rem_ref (h : PlM lo w s) (hnd : ((s.RL.map Hr.er).map (·.i)).Nodup) (hid : In64 id) (hl : s.RL.length ≤ 8388608) : Calls Tryd.prog 23 #[.pointer (some ⟨s.R, 0, none⟩), .int .i64 id] w fun e w' => e = .returned (.int .i64 (if (getR id (s.RL.map Hr.er)).isSome then 0 else 8)) ∧ ∃ rp' rc' RL', remOk2 s.RL id RL' ∧ PlM lo w' { s with rp := rp', rc := rc', RL := RL' } ∧ Kp (fun b => b = s.R) w w' := by
  refine (rRemove_calls (PlS w s.D) s.R s.rp s.rc s.RL id w ⟨h.r, h.rl, fun hh => hh.2 (.inr (.inl rfl))⟩ (fun x hx => hx.1) hl hid).mono ?_
  intro e w' hr
  rcases hr with ⟨h1, h2, h3⟩ | ⟨p', c', k, hk, h1, h2, h3, h4, h5, h6⟩
  · rw [h1]
    exact ⟨h2, s.rp, s.rc, s.RL, ⟨(off_none h1).symm, fun y hy => ⟨y, hy, rfl⟩, rfl⟩, h.gr h3, Kp.of_gr h3⟩
  · rw [h3]
    exact ⟨h4, p', c', _, off_set hnd k hk h1, h.ref h5 h6, h6⟩
end
/-- What stands while the two go by in either order. -/
def RemJ (lo : Nat) (s : PlaySt) (id : Int) (listed : Array Bool) (w : World) : Prop := ∃ va st rp rc RL, PlM lo w { s with va := va, st := st, rp := rp, rc := rc, RL := RL } ∧ (listed.getD 3 false = false → va = s.va ∧ st = s.st) ∧ (listed.getD 3 false = true → remOk s.st id st) ∧
  (listed.getD 7 false = false → RL = s.RL) ∧ (listed.getD 7 false = true → remOk2 s.RL id RL)
theorem RemJ.start {lo : Nat} {s : PlaySt} {id : Int} {w : World} (n : Nat) (h : PlM lo w s) : RemJ lo s id (Array.replicate n false) w := by
  have : ∀ i, (Array.replicate n false).getD i false = false := by
    intro i
    rw [Array.getD_eq_getD_getElem?, Array.getElem?_replicate]
    split <;> rfl
  exact ⟨s.va, s.st, s.rp, s.rc, s.RL, h, fun _ => ⟨rfl, rfl⟩, fun h => (by rw [this] at h; cases h), fun _ => rfl, fun h => (by rw [this] at h; cases h)⟩
theorem RemJ.other {lo : Nat} {s : PlaySt} {id : Int} {listed : Array Bool} {w w' : World} {j : Nat} (hj : (j != 3 && j != 7) = true) (h : RemJ lo s id listed w) (hg : Gr w w') : RemJ lo s id (listed.setIfInBounds j true) w' := by
  simp only [Bool.and_eq_true, bne_iff_ne] at hj
  obtain ⟨va, st, rp, rc, RL, h1, h2⟩ := h
  refine ⟨va, st, rp, rc, RL, h1.gr hg, ?_⟩
  rw [getD_set_ne false hj.1, getD_set_ne false hj.2]
  exact h2

set_option maxHeartbeats 8000000 in
set_option maxRecDepth 100000 in
theorem based_remove (lo n : Nat) (w : World) (s : PlaySt) (x : Stp) (h : PlOk lo n w s) (hx : StpOk lo w x) (hk : x.k = 1) (hn : n ≤ 4194304) :
    Calls Tryd.prog 7 #[.pointer (some ⟨s.B, 0, none⟩), .pointer (some ⟨s.R, 0, none⟩), .pointer (some ⟨s.X, 0, none⟩), x.val] w (RetPl lo n s w) := by
  obtain ⟨E, hE⟩ : ∃ E : Int, (if (s.st.wh x.n).isSome then 0 else 8) = E := ⟨_, rfl⟩
  have hE2 : (if (getR x.n (s.RL.map Hr.er)).isSome then (0 : Int) else 8) = E := by
    rw [← hE]
    cases hw : s.st.wh x.n with
    | none =>
      have : getR x.n (s.RL.map Hr.er) = none := by
        rw [getR, List.find?_eq_none]
        intro y hy h4
        rw [Bool.and_eq_true, decide_eq_true_eq] at h4
        exact h.a.absent hw y hy h4
      rw [this]
      rfl
    | some k =>
      obtain ⟨y, hy, hyi, hyt, _⟩ := (h.a.wh x.n k).1 hw
      cases hf : getR x.n (s.RL.map Hr.er) with
      | none =>
        rw [getR, List.find?_eq_none] at hf
        exact absurd (by simp [hyi, hyt]) (hf y hy)
      | some z => rfl
  have hlast : s.st.last ≤ 8388608 := by have := h.last; have := h.nr; omega
  have hR : Hid (∀ w' va st rp rc RL, PlM lo w' { s with va := va, st := st, rp := rp, rc := rc, RL := RL } → remOk s.st x.n st → remOk2 s.RL x.n RL → Kp s.D w w' → RetPl lo n s w (.returned (.bool true)) w') := fun w' va st rp rc RL h1 h2 h3 h4 =>
    ⟨rfl, _, ⟨h1, rem_agree h.a h2 h3, fun y hy => by obtain ⟨z, hz, e⟩ := h3.2.1 y hy; rw [e]; exact h.c z hz, h.e, by have := h.nr; have := h3.2.2; simp only; omega, Nat.le_succ_of_le h.nv⟩, rfl, rfl, rfl, h4.mono fun b hb => h.m.low b hb⟩
  have HP := Lib.hid (fun W (va : Value) (rp : Option Addr) (rc : Nat) (RL : List Hr) (g : PlM lo W { s with rp := rp, rc := rc, RL := RL }) => rem_base (id := x.n) g hx.n hlast)
  have HRf := Lib.hid (fun W (va : Value) (st : BSt) (rp : Option Addr) (rc : Nat) (g : PlM lo W { s with va := va, st := st, rp := rp, rc := rc }) => rem_ref (id := x.n) g h.a.nd hx.n (by have := h.nr; simp only; omega))
  generalize RetPl lo n s w = Q at hR ⊢
  have Hk := Lib.hid hk
  have HM := Lib.hid h.m
  have nB : ¬ s.D w.heap.size := fun hd => by have := h.m.lt _ hd; omega
  have HE := Lib.hid (And.intro hE hE2)
  clear h hx hk hn hE hE2 hlast
  rw [Stp.val]
  go_enter Tryd.func7, Tryd.ntmps7
  try simp only [List.append_eq, List.cons_append, List.nil_append]
  go_upto_region 1 with fail
  have hN := BlkT.new w 38 #[.int .i64 x.k, .int .i64 x.h.k, .int .i64 x.h.n, .string x.h.s, .slice x.h.p x.h.l.length x.h.c, .int .i64 x.b.k, .int .i64 x.b.n, .string x.b.s, .slice x.b.p x.b.l.length x.b.c, .bool x.f, .int .i64 x.n, .int .i64 x.g.k, .int .i64 x.g.n, .string x.g.s, .slice x.g.p x.g.l.length x.g.c]
  have gA : Gr w (w.alloc (.cells #[.int .i64 x.k, .int .i64 x.h.k, .int .i64 x.h.n, .string x.h.s, .slice x.h.p x.h.l.length x.h.c, .int .i64 x.b.k, .int .i64 x.b.n, .string x.b.s, .slice x.b.p x.b.l.length x.b.c, .bool x.f, .int .i64 x.n, .int .i64 x.g.k, .int .i64 x.g.n, .string x.g.s, .slice x.g.p x.g.l.length x.g.c] 38)) := by go_grown
  generalize w.alloc (.cells #[.int .i64 x.k, .int .i64 x.h.k, .int .i64 x.h.n, .string x.h.s, .slice x.h.p x.h.l.length x.h.c, .int .i64 x.b.k, .int .i64 x.b.n, .string x.b.s, .slice x.b.p x.b.l.length x.b.c, .bool x.f, .int .i64 x.n, .int .i64 x.g.k, .int .i64 x.g.n, .string x.g.s, .slice x.g.p x.g.l.length x.g.c] 38) = wA at *
  have HN := Lib.hid hN
  clear hN
  have c0 := HN.out.cell 0 (v := .int .i64 x.k) rfl
  have c10 := HN.out.cell 10 (v := .int .i64 x.n) rfl
  rw [Hk.out] at c0
  have HA := Lib.hid gA
  clear gA HN
  go_upto_region 7 with fail
  refine wp_region_relyA 9 [fx (.pointer (some ⟨s.B, 0, none⟩)), fx (.pointer (some ⟨w.heap.size, 10, none⟩)), fx (.int .i64 x.n), fx (.int .i64 E), fx (.pointer (some ⟨s.R, 0, none⟩)), fx (.pointer (some ⟨w.heap.size, 10, none⟩)), fx (.int .i64 x.n), fx (.int .i64 E), fx (.bool true)]
    (Kp s.D) (fun l _ w => RemJ lo s x.n l w) (by kernel_rfl) (by kernel_rfl) (by decide) (by kernel_rfl) (fun _ _ h => Kp.of_gr h) (fun _ _ _ h k => Kp.trans h k) (fun w h => RemJ.start _ ((HM.out.gr HA.out).gr h)) (by repeat (first | exact StableR.nil | refine StableR.fix ?_)) ?_ ?_
  · refine ⟨stepA_plain (fun _ _ h => Kp.of_gr h) (fun listed a w w' v h hg => RemJ.other rfl h hg) ?_, stepA_plain (fun _ _ h => Kp.of_gr h) (fun listed a w w' v h hg => RemJ.other rfl h hg) ?_, stepA_plain (fun _ _ h => Kp.of_gr h) (fun listed a w w' v h hg => RemJ.other rfl h hg) ?_, ?a3, stepA_plain (fun _ _ h => Kp.of_gr h) (fun listed a w w' v h hg => RemJ.other rfl h hg) ?_, stepA_plain (fun _ _ h => Kp.of_gr h) (fun listed a w w' v h hg => RemJ.other rfl h hg) ?_, stepA_plain (fun _ _ h => Kp.of_gr h) (fun listed a w w' v h hg => RemJ.other rfl h hg) ?_, ?a7, stepA_plain (fun _ _ h => Kp.of_gr h) (fun listed a w w' v h hg => RemJ.other rfl h hg) ?_, trivial⟩
    case a3 =>
      intro listed fr ww hj hl hpre hg hdef hold
      have h0 : fr.tmps[0]?.getD undef = .pointer (some ⟨s.B, 0, none⟩) := hold 0 rfl
      have h1 : fr.tmps[1]?.getD undef = .pointer (some ⟨s.R, 0, none⟩) := hold 1 rfl
      have h7 : fr.tmps[7]?.getD undef = .pointer (some ⟨w.heap.size, 0, none⟩) := hold 7 rfl
      have y10 := Kp.cell hg c10 nB
      have Hg := Lib.hid hg
      clear hold c10 c0
      have Hl := Lib.hid hl
      clear hdef
      simp [predsImp, Region.binds, dstAt, fx]
      intros
      rename_i K hK
      go_simp
      obtain ⟨va, st, rp, rc, RL, m1, m2, m3, m4, m5⟩ := hj
      obtain ⟨rfl, rfl⟩ := m2 (getD_tf Hl.out)
      refine (HP.out ww s.va rp rc RL m1).mono ?_
      rintro e9 w9 ⟨rfl, va2, st2, k1, k2, k3⟩
      rw [show (if (s.st.wh x.n).isSome then (0 : Int) else 8) = E from HE.out.1]
      exact hK _ _ rfl k3 ⟨va2, st2, rp, rc, RL, k2, (fun hh => absurd ((getD_set_eq Hl.out).symm.trans hh) (by decide)), fun _ => k1, (fun hh => m4 ((getD_set_ne false (by decide)).symm.trans hh)), fun hh => m5 ((getD_set_ne false (by decide)).symm.trans hh)⟩
    case a7 =>
      intro listed fr ww hj hl hpre hg hdef hold
      have h0 : fr.tmps[0]?.getD undef = .pointer (some ⟨s.B, 0, none⟩) := hold 0 rfl
      have h1 : fr.tmps[1]?.getD undef = .pointer (some ⟨s.R, 0, none⟩) := hold 1 rfl
      have h7 : fr.tmps[7]?.getD undef = .pointer (some ⟨w.heap.size, 0, none⟩) := hold 7 rfl
      have y10 := Kp.cell hg c10 nB
      have Hg := Lib.hid hg
      clear hold c10 c0
      have Hl := Lib.hid hl
      clear hdef
      simp [predsImp, Region.binds, dstAt, fx]
      intros
      rename_i K hK
      go_simp
      obtain ⟨va, st, rp, rc, RL, m1, m2, m3, m4, m5⟩ := hj
      obtain rfl := m4 (getD_tf Hl.out)
      refine (HRf.out ww va st rp rc m1).mono ?_
      rintro e9 w9 ⟨rfl, rp2, rc2, RL2, k1, k2, k3⟩
      rw [show (if (getR x.n (s.RL.map Hr.er)).isSome then (0 : Int) else 8) = E from HE.out.2]
      exact hK _ _ rfl (k3.mono fun b hb => .inr (.inl hb)) ⟨va, st, rp2, rc2, RL2, k2, (fun hh => m2 ((getD_set_ne false (by decide)).symm.trans hh)), (fun hh => m3 ((getD_set_ne false (by decide)).symm.trans hh)), (fun hh => absurd ((getD_set_eq Hl.out).symm.trans hh) (by decide)), fun _ => k1⟩
    all_goals
      intro fr ww hg hold
      have h0 : fr.tmps[0]?.getD undef = .pointer (some ⟨s.B, 0, none⟩) := hold 0 rfl
      have h1 : fr.tmps[1]?.getD undef = .pointer (some ⟨s.R, 0, none⟩) := hold 1 rfl
      have h7 : fr.tmps[7]?.getD undef = .pointer (some ⟨w.heap.size, 0, none⟩) := hold 7 rfl
      have y10 := Kp.cell hg c10 nB
      have Hg := Lib.hid hg
      clear hold c10 c0
      simp [predsImp, Region.binds, dstAt, fx]
      intros
      rename_i K hK
      go_simp
    all_goals exact hK _ _ rfl (Gr.rfl' _)
  · intro w5 hg
    rintro _ rfl _ rfl _ rfl _ rfl _ rfl _ rfl _ rfl _ rfl _ rfl hcj
    simp only [Act.put, List.setIfInBounds_toArray, List.set_cons_succ, List.set_cons_zero, List.drop_succ_cons, List.drop_zero] at hcj ⊢
    obtain ⟨va, st, rp, rc, RL, m1, m2, m3, m4, m5⟩ := hcj
    have HE := Lib.hid (hR.out w5 va st rp rc RL m1 (m3 rfl) (m5 rfl) ((Kp.of_gr HA.out).trans hg))
    clear c0 c10 hg m1 m2 m3 m4 m5 hR
    go_wp2_with fail
    exact HE.out
end Go.Proofs.YtjdoflfdlhpbmaaDoor

namespace Go.Proofs.YtjdoflfdlhpbmaaDoor
open Go.RowKit Go.Maps Go.Lib

theorem based_calls (lo n : Nat) (w : World) (s : PlaySt) (x : Stp) (m₀ : Int) (hm₀ : w.cell? ⟨0, 0, none⟩ = some (.int .i64 m₀)) (hlo : 0 < lo) (h : PlOk lo n w s) (hx : StpOk lo w x) (hgs : x.g.s.size ≤ 140737488351232) (hn : n ≤ 4194304) :
    Calls Tryd.prog 7 #[.pointer (some ⟨s.B, 0, none⟩), .pointer (some ⟨s.R, 0, none⟩), .pointer (some ⟨s.X, 0, none⟩), x.val] w (RetPl lo n s w) := by
  by_cases h0 : x.k = 0
  · by_cases hp : plainErr reserved x.h.erase x.b.erase = 0
    · exact based_add lo n w s x m₀ hm₀ hlo h hx h0 hn hp (plain_callable hp)
    · exact based_add_bad lo n w s x m₀ hm₀ h hx h0 hn hp
  by_cases h1 : x.k = 1
  · exact based_remove lo n w s x h hx h1 hn
  by_cases h2 : x.k = 2
  · exact based_get lo n w s x h hx h2 hn
  by_cases h3 : x.k = 3
  · exact based_known lo n w s x h hx hgs h3 hn
  by_cases h4 : x.k = 4
  · exact based_seen lo n w s x h hx (.inl h4) hn
  by_cases h5 : x.k = 5
  · exact based_seen lo n w s x h hx (.inr h5) hn
  by_cases h6 : x.k = 6
  · by_cases ho : x.n < 0 ∨ (0 ≤ x.n ∧ (s.vs.length : Int) ≤ x.n)
    · exact based_out lo n w s x h h6 ho
    · obtain ⟨k, hk⟩ : ∃ k : Nat, x.n = k := ⟨x.n.toNat, by omega⟩
      have hkl : k < s.vs.length := by omega
      cases hnx : nextT s.vs[k].G.erase (s.vs[k].M.map Hd.er) with
      | none => exact based_done lo n w s x k hkl h h6 hk hn hnx
      | some y => exact based_told lo n w s x k hkl h h6 hk hn y.1 y.2 hnx
  · exact based_none lo n w s x h ⟨by simpa using h0, by simpa using h1, by simpa using h2, by simpa using h3, by simpa using h4, by simpa using h5, by simpa using h6⟩
end Go.Proofs.YtjdoflfdlhpbmaaDoor

namespace Go.Proofs.YtjdoflfdlhpbmaaDoor
open Go.RowKit Go.Maps Go.Lib

theorem pl_all {lo n : Nat} {w : World} {s : PlaySt} (h : PlOk lo n w s) (hn : n ≤ 8388608) : Calls Tryd.prog 9 #[.pointer (some ⟨s.B, 0, none⟩)] w (RetIntR s.st.all w) :=
  allP_calls (PlS w s.D) s.B s.M1 s.M2 s.va s.st w h.m.b (by have := h.last; have := h.nr; omega)
theorem pl_rall {lo n : Nat} {w : World} {s : PlaySt} (h : PlOk lo n w s) (hn : n ≤ 8388608) : Calls Tryd.prog 10 #[.pointer (some ⟨s.R, 0, none⟩)] w (RetIntR s.st.all w) := by
  have := rAll_calls (PlS w s.D) s.R s.rp s.rc s.RL w ⟨h.m.r, h.m.rl, fun hh => hh.2 (.inr (.inl rfl))⟩ (by have := h.nr; omega)
  rw [show s.st.all = allR (s.RL.map Hr.er) from h.a.all]
  exact this
theorem pl_64 {lo n : Nat} {w : World} {s : PlaySt} (h : PlOk lo n w s) (hn : n ≤ 8388608) : ∀ i ∈ s.st.all, In64 i := by
  intro i hi
  rw [h.a.all] at hi
  obtain ⟨x, hx, rfl⟩ := List.mem_map.1 hi
  have h1 := h.a.ids x ((List.mem_filter.1 hx).1)
  rw [List.length_map] at h1
  have := h.nr
  unfold In64
  omega
/-- A base, the document's base and no views. -/
def pl0 (N : Nat) : PlaySt := ⟨N + 1 + 1, N, N + 1, .slice none 0 0, newSt, N + 1 + 1 + 1, none, 0, [], N + 1 + 1 + 1 + 1, .slice none 0 0, []⟩
theorem pl0_ok {w w3 : World} (hb : NewBase w3 (w.heap.size + 1 + 1) w.heap.size (w.heap.size + 1)) (hr : BlkT w3 (w.heap.size + 1 + 1 + 1) 27 #[.slice none 0 0]) (hx : BlkT w3 (w.heap.size + 1 + 1 + 1 + 1) 28 #[.slice none 0 0]) : PlOk w.heap.size 0 w3 (pl0 w.heap.size) := by
  have hnil : ∀ x, ¬ ((Value.slice none 0 0).ownBlock = some x) := fun x h => by cases h
  have hD : ∀ b, (pl0 w.heap.size).D b → w.heap.size ≤ b ∧ b < w.heap.size + 5 := fun b hb => by
    rcases hb with (hb | hb | hb | hb) | hb | hb | hb | hb
    · simp only [pl0] at hb; omega
    · simp only [pl0] at hb; omega
    · simp only [pl0] at hb; omega
    · exact absurd hb (hnil b)
    · simp only [pl0] at hb; omega
    · simp only [pl0] at hb; omega
    · exact absurd hb (hnil b)
    · simp [pl0] at hb
  have hsz : w.heap.size + 1 + 1 + 1 + 1 < w3.heap.size := hx.lt
  refine ⟨⟨BaseG.new hb fun b h1 h2 => h1.2 (.inl h2), hr, ⟨Nat.le_refl _, by simp [pl0], by simp [pl0], .inl rfl, fun y hy => by simp [pl0] at hy⟩, hx, World.ownsRow_nil _ _ _ _, fun y hy => by simp [pl0] at hy, ?_, ?_, ?_, fun b hb => absurd hb (hnil b), fun b hb => by simp [pl0] at hb, by simp [pl0], fun b hb => (hD b hb).1, fun b hb => by have := (hD b hb).2; omega, by omega⟩, Agree.new, fun y hy => by simp [pl0] at hy, fun y hy => by simp [pl0] at hy, Nat.le_refl _, Nat.le_refl _⟩
  · rintro (h | h | h | h)
    · simp only [pl0] at h; omega
    · simp only [pl0] at h; omega
    · simp only [pl0] at h; omega
    · exact hnil _ h
  · rintro (h | h | h | h)
    · simp only [pl0] at h; omega
    · simp only [pl0] at h; omega
    · simp only [pl0] at h; omega
    · exact hnil _ h
  · simp only [pl0]; omega

set_option maxHeartbeats 8000000 in
set_option maxRecDepth 100000 in
theorem basePlays_walk (l : Stps) (w : World) (m₀ : Int) (hm₀ : w.cell? ⟨0, 0, none⟩ = some (.int .i64 m₀)) (hl : l.In w) (zl : l.l.length ≤ 1048576) :
    Calls Tryd.prog 3 #[l.val] w (Ret (.bool true) w) := by
  have hR : Hid (∀ w', Kp (fun b => w.heap.size ≤ b) w w' → Ret (.bool true) w (.returned (.bool true)) w') := fun w' hk => ⟨rfl, hk.below (fun b hb => hb) (Nat.le_refl _)⟩
  generalize hQ : Ret (.bool true) w = Q at hR ⊢
  clear hQ
  obtain ⟨lp, lc, L⟩ := l
  simp only at zl
  have HL := Lib.hid (show SlOf Stp.cells (Stp.In w) 15 192 w lp lc L from hl)
  have hLc := hl.1
  have hLc2 := hl.2.1
  simp only at hLc hLc2
  have h0 : 0 < w.heap.size := World.block_lt_of_cell? _ _ hm₀
  have HM := Lib.hid hm₀
  clear hl hm₀
  simp only [Stps.val]
  go_enter Tryd.func3, Tryd.ntmps3
  try simp only [List.append_eq, List.cons_append, List.nil_append]
  go_upto_region 2 with (first
    | (go_at_call 6; refine (new_calls _).mono ?_; rintro e w1 ⟨rfl, hw1⟩; have hNB := (new_base w).1; rewrite [← hw1] at hNB; have g1 : Gr w w1 := by rw [hw1]; go_grown
       have Hs1 : Hid (w1.heap.size = w.heap.size + 1 + 1 + 1) := by show _ = _; rw [hw1]; simp
       have HNB := Lib.hid hNB
       clear hw1 hNB)
    | fail)
  go_upto_region 4 with fail
  have hr := BlkT.new w1 27 #[.slice none 0 0]
  have gr1 : Gr w1 (w1.alloc (.cells #[.slice none 0 0] 27)) := by go_grown
  have hs2 : (w1.alloc (.cells #[.slice none 0 0] 27)).heap.size = w1.heap.size + 1 := World.size_alloc _ _
  generalize w1.alloc (.cells #[.slice none 0 0] 27) = w2 at *
  have hx := BlkT.new w2 28 #[.slice none 0 0]
  have gr2 : Gr w2 (w2.alloc (.cells #[.slice none 0 0] 28)) := by go_grown
  generalize w2.alloc (.cells #[.slice none 0 0] 28) = w3 at *
  have hs1 := Hs1.out
  have hok := pl0_ok (w := w) (w3 := w3) ⟨HNB.out.blk.gr (gr1.trans gr2), HNB.out.m1.gr (gr1.trans gr2), HNB.out.m2.gr (gr1.trans gr2), HNB.out.n1, HNB.out.n2, HNB.out.n3⟩ (by rw [← hs1]; exact hr.gr gr2) (by rw [← hs1, ← hs2]; exact hx)
  have HOK := Lib.hid hok
  have G3 := Lib.hid ((g1.trans gr1).trans gr2)
  rw [hs1]
  clear hok hr hx gr1 gr2 g1 hs1 hs2 HNB Hs1
  have HX1 : Hid (w.heap.size + 1 + 1 + 1 + 1 = (pl0 w.heap.size).X) := Lib.hid rfl
  have HX2 : Hid (w.heap.size + 1 + 1 + 1 = (pl0 w.heap.size).R) := Lib.hid rfl
  have HX3 : Hid (w.heap.size + 1 + 1 = (pl0 w.heap.size).B) := Lib.hid rfl
  generalize w.heap.size + 1 + 1 + 1 = RR at *
  generalize w.heap.size + 1 + 1 = B at *
  go_wp2_with fail
  go_loopg [6] L.length (fun m i wr => ∃ (k : Nat) (s : PlaySt), k ≤ L.length ∧ m = L.length - k ∧ i = .int .i64 k ∧ Hid (PlOk w.heap.size k wr s) ∧ Hid (s.B = B ∧ s.R = RR ∧ s.X = RR + 1) ∧ Hid (Kp (fun b => w.heap.size ≤ b) w wr))
  case atStart => exact ⟨0, pl0 w.heap.size, Nat.zero_le _, rfl, rfl, HOK.out, ⟨HX3.out.symm, HX2.out.symm, HX1.out.symm⟩, Kp.of_gr G3.out⟩
  case round =>
    obtain ⟨k, s, hk, rfl, rfl, HP, HE, HK⟩ := hrel
    by_cases hlt : k < L.length
    · obtain ⟨b, o, hp, hb, hrow⟩ := HL.out.ptr (by omega)
      subst hp
      have hel := hrow k L[k] (List.getElem?_eq_getElem hlt)
      obtain ⟨i1, i2, i3, i4, i5⟩ := HL.out.2.2.2 L[k] (List.getElem_mem hlt)
      generalize L[k] = x at *
      have Hel := Lib.hid (fun j v hv => HK.out.cell (hel j v hv) (show ¬ w.heap.size ≤ b by omega))
      have hno : ∀ b, b < w.heap.size → ¬ w.heap.size ≤ b := fun b h1 h2 => by omega
      have HStp : Hid (StpOk w.heap.size wr x) := ⟨tm_kp i1 i1.on hno HK.out, i1.on, tm_kp i2 i2.on hno HK.out, i2.on, i5, tm_kp i3 i3.on hno HK.out, i3.on⟩
      have hgs : x.g.s.size ≤ 140737488351232 := by
        have h9 := i3
        generalize x.g = g at h9 ⊢
        obtain ⟨k, n, s, p, c, l⟩ := g
        rw [Tm.In] at h9
        exact h9.2.2.1
      have HB : Hid (Calls Tryd.prog 7 #[.pointer (some ⟨B, 0, none⟩), .pointer (some ⟨RR, 0, none⟩), .pointer (some ⟨RR + 1, 0, none⟩), .agg #[.int .i64 x.k, .int .i64 x.h.k, .int .i64 x.h.n, .string x.h.s, .slice x.h.p x.h.l.length x.h.c, .int .i64 x.b.k, .int .i64 x.b.n, .string x.b.s, .slice x.b.p x.b.l.length x.b.c, .bool x.f, .int .i64 x.n, .int .i64 x.g.k, .int .i64 x.g.n, .string x.g.s, .slice x.g.p x.g.l.length x.g.c]] wr (RetPl w.heap.size k s wr)) := by
        have := based_calls w.heap.size k wr s x m₀ (HK.out.cell HM.out (show ¬ w.heap.size ≤ 0 by omega)) h0 HP.out HStp.out hgs (by omega)
        rw [HE.out.1, HE.out.2.1, HE.out.2.2] at this
        exact this
      have z0 : wr.cell? ⟨b, o + k * 15, none⟩ = some (.int .i64 x.k) := Hel.out 0 _ rfl
      have z1 := Hel.out 1 _ rfl
      have z2 := Hel.out 2 _ rfl
      have z3 := Hel.out 3 _ rfl
      have z4 := Hel.out 4 _ rfl
      have z5 := Hel.out 5 _ rfl
      have z6 := Hel.out 6 _ rfl
      have z7 := Hel.out 7 _ rfl
      have z8 := Hel.out 8 _ rfl
      have z9 := Hel.out 9 _ rfl
      have z10 := Hel.out 10 _ rfl
      have z11 := Hel.out 11 _ rfl
      have z12 := Hel.out 12 _ rfl
      have z13 := Hel.out 13 _ rfl
      have z14 := Hel.out 14 _ rfl
      clear hel i1 i2 i3 i4 i5 hrow
      go_wp2_with (first
        | (go_at_call 7; replace z0 := z0; refine HB.out.mono ?_; rintro e w4 ⟨rfl, s2, hP, eB, eR, eX, hK⟩; have HP4 := Lib.hid hP; have HE4 : Hid (s2.B = B ∧ s2.R = RR ∧ s2.X = RR + 1) := ⟨eB.trans HE.out.1, eR.trans HE.out.2.1, eX.trans HE.out.2.2⟩; have HK4 := Lib.hid (HK.out.trans hK); clear hP eB eR eX hK z0 z1 z2 z3 z4 z5 z6 z7 z8 z9 z10 z11 z12 z13 z14; have HA : Hid (Calls Tryd.prog 9 #[.pointer (some ⟨B, 0, none⟩)] w4 (RetIntR s2.st.all w4)) := (by have := pl_all HP4.out (by omega); rw [HE4.out.1] at this; exact this))
        | (go_at_call 9; refine HA.out.mono ?_; rintro e w5 ⟨v1, rfl, ho1, g5⟩; have HO1 := Lib.hid ho1; have G5 := Lib.hid g5; clear ho1 g5; have HA2 : Hid (Calls Tryd.prog 10 #[.pointer (some ⟨RR, 0, none⟩)] w5 (RetIntR s2.st.all w5)) := (by have := pl_rall (HP4.out.gr G5.out) (by omega); rw [HE4.out.2.1] at this; exact this))
        | (go_at_call 10; refine HA2.out.mono ?_; rintro e w6 ⟨v2, rfl, ho2, g6⟩; obtain ⟨q1, d1, rfl, hs1⟩ := intsl_own HO1.out (pl_64 HP4.out (by omega)); obtain ⟨q2, d2, rfl, hs2⟩ := intsl_own ho2 (pl_64 HP4.out (by omega)); have HN := Lib.hid (numbers_calls q1 q2 d1 d2 s2.st.all w6 (hs1.mono g6) hs2); have G6 := Lib.hid (G5.out.trans g6); clear ho2 g6 hs1 hs2 G5)
        | (go_at_call 8; refine HN.out.mono ?_; rintro e w7 ⟨rfl, g7⟩; have G7 := Lib.hid (G6.out.trans g7); clear g7 G6)
        | fail)
      go_roundg (L.length - (k + 1))
      case measure => omega
      case rel => exact ⟨k + 1, s2, by omega, rfl, by go_num, HP4.out.gr G7.out, HE4.out, HK4.out.trans (Kp.of_gr G7.out)⟩
    · obtain rfl : k = L.length := by omega
      go_wp2_with fail
      exact hR.out _ HK.out
end Go.Proofs.YtjdoflfdlhpbmaaDoor
