/-
  hornlaw.based where a clause is put in.
  hornlaw.based where a clause that is not plain is to be put in.
  hornlaw.based where a view is asked that is not there.
  hornlaw.BasePlays: a view has told one more; the two still tell the same.
  hornlaw.none
  hornlaw.based where a view has nothing left.
  A term is the same as itself.
-/
import Derived.Test.YtjdoflfdlhpbmaaDoorBP29
import Derived.Test.YtjdoflfdlhpbmaaDoorBP18
import Derived.BigQuiet
import Derived.Test.YtjdoflfdlhpbmaaDoorBP03
import Derived.Test.YtjdoflfdlhpbmaaDoorBP04
namespace Go.Proofs.YtjdoflfdlhpbmaaDoor
open Go.RowKit Go.Maps Go.Lib

set_option maxHeartbeats 8000000 in
set_option maxRecDepth 100000 in
theorem based_add (lo n : Nat) (w : World) (s : PlaySt) (x : Stp) (m₀ : Int) (hm₀ : w.cell? ⟨0, 0, none⟩ = some (.int .i64 m₀)) (hlo : 0 < lo) (h : PlOk lo n w s) (hx : StpOk lo w x) (hk : x.k = 0) (hn : n ≤ 4194304) (hp : plainErr reserved x.h.erase x.b.erase = 0) (hcal : x.h.erase.callable = true) :
    Calls Tryd.prog 7 #[.pointer (some ⟨s.B, 0, none⟩), .pointer (some ⟨s.R, 0, none⟩), .pointer (some ⟨s.X, 0, none⟩), x.val] w (RetPl lo n s w) := by
  obtain ⟨ff, fb⟩ := plainErr_formed hp
  have hbl : lo ≤ s.B := h.m.low _ (.inl (.inl rfl))
  have hlast := h.last
  have hnr := h.nr
  have hR : Hid (∀ W w' rp rc st', Gr w W → Added s.st (keyT x.h.erase) x.f x.h.erase x.b.erase st' → (∃ va', PlM lo w' { s with va := va', st := st', rp := rp, rc := rc, RL := if x.f then ⟨s.RL.length + 1, x.h, x.b, true⟩ :: s.RL else s.RL ++ [⟨s.RL.length + 1, x.h, x.b, true⟩] }) → Kp s.D w w' → RetPl lo n s w (.returned (.bool true)) w') := fun W w' rp rc st' h0 h1 ⟨va', h2⟩ h3 => by
    refine ⟨rfl, _, ⟨h2, ?_, fun y hy => ?_, h.e, ?_, Nat.le_succ_of_le h.nv⟩, rfl, rfl, rfl, h3.mono fun b hb => h.m.low b hb⟩
    · have := h.a.add h1
      rw [List.length_map] at this
      cases hf : x.f
      · rw [hf] at this
        simpa [Hr.er] using this
      · rw [hf] at this
        simpa [Hr.er] using this
    · have hy' : y = ⟨s.RL.length + 1, x.h, x.b, true⟩ ∨ y ∈ s.RL := by
        simp only at hy
        cases hf : x.f
        · rw [hf] at hy
          simp only [Bool.false_eq_true, if_false, List.mem_append, List.mem_singleton] at hy
          exact hy.symm
        · rw [hf] at hy
          simp only [if_true, List.mem_cons] at hy
          exact hy
      rcases hy' with rfl | hy
      · exact hcal
      · exact h.c y hy
    · simp only
      cases x.f <;> simp <;> omega
  have HP := Lib.hid (fun W (g : Gr w W) => show Calls Tryd.prog 20 #[.pointer (some ⟨s.B, 0, none⟩), .agg #[.int .i64 x.h.k, .int .i64 x.h.n, .string x.h.s, .slice x.h.p x.h.l.length x.h.c, .int .i64 x.b.k, .int .i64 x.b.n, .string x.b.s, .slice x.b.p x.b.l.length x.b.c], .bool x.f] W _ from add_gen (PlS W s.D) s.B s.M1 s.M2 s.va s.st x.h x.b x.f W (h.m.gr g).b (Tm.In_below g hx.h) (Tm.In_below g hx.b) (hx.ho.mono fun b hb e => by have hb : b < lo := hb; omega) (hx.bo.mono fun b hb e => by have hb : b < lo := hb; omega) (fun y hy => hy.1) hp ff fb (tm_small ff).1 (tm_small ff).2 (by omega) (by omega))
  have hsB : ∀ b, Mut s.B s.M1 s.M2 s.va b → s.D b := fun b hb => .inl hb
  have hstep : ∀ W w2 va' st', Gr w W → BaseG (fun y => PlS W s.D y ∨ (W.heap.size ≤ y ∧ va'.ownBlock ≠ some y)) w2 s.B s.M1 s.M2 va' st' → Kp (Mut s.B s.M1 s.M2 s.va) W w2 → (va'.ownBlock = s.va.ownBlock ∨ ∃ g, va'.ownBlock = some g ∧ W.heap.size ≤ g) →
      PlM lo w2 { s with va := va', st := st' } := fun W w2 va' st' g h1 h2 h3 => (h.m.gr g).base h1 h2 h3
  have HS := Lib.hid hstep
  have HRf := Lib.hid (fun w2 (s1 : PlaySt) (hs : s1.R = s.R ∧ s1.RL = s.RL) (g : PlM lo w2 s1) (hkp : Kp s.D w w2) => show Calls Tryd.prog 21 #[.pointer (some ⟨s.R, 0, none⟩), .agg #[.int .i64 x.h.k, .int .i64 x.h.n, .string x.h.s, .slice x.h.p x.h.l.length x.h.c, .int .i64 x.b.k, .int .i64 x.b.n, .string x.b.s, .slice x.b.p x.b.l.length x.b.c], .bool x.f] w2 (RetRA (PlS w2 s1.D) s.R s.RL x.h x.b x.f w2) from by
    have hnl : ∀ b, b < lo → ¬ s.D b := fun b hb hd => by have := h.m.low b hd; omega
    have hnl2 : ∀ b, b < lo → PlS w2 s1.D b := fun b hb => ⟨by have := g.lw; omega, fun hd => by have := g.low b hd; omega⟩
    have := rAdd_calls (PlS w2 s1.D) s1.R s1.rp s1.rc s1.RL x.h x.b x.f w2 m₀ (hkp.cell hm₀ (hnl 0 hlo)) ⟨g.r, g.rl, fun hh => hh.2 (.inr (.inl rfl))⟩ (fun y hy => hy.1) (tm_kp hx.h hx.ho (fun b hb => hnl b hb) hkp) (tm_kp hx.b hx.bo (fun b hb => hnl b hb) hkp) (hx.ho.mono hnl2) (hx.bo.mono hnl2) (by rw [hs.2]; omega)
    rw [hs.1, hs.2] at this
    exact this)
  generalize RetPl lo n s w = Q at hR ⊢
  have Hk := Lib.hid hk
  have Hp := Lib.hid hp
  have Hl := Lib.hid hlast
  have nB : ¬ s.D w.heap.size := fun hd => by have := h.m.lt _ hd; omega
  have HnB := Lib.hid nB
  clear h hx hk hn hp hlast hnr hstep hcal ff fb hm₀ hlo hbl nB
  rw [Stp.val]
  go_enter Tryd.func7, Tryd.ntmps7
  try simp only [List.append_eq, List.cons_append, List.nil_append]
  go_upto_region 1 with fail
  have hN := BlkT.new w 38 #[.int .i64 x.k, .int .i64 x.h.k, .int .i64 x.h.n, .string x.h.s, .slice x.h.p x.h.l.length x.h.c, .int .i64 x.b.k, .int .i64 x.b.n, .string x.b.s, .slice x.b.p x.b.l.length x.b.c, .bool x.f, .int .i64 x.n, .int .i64 x.g.k, .int .i64 x.g.n, .string x.g.s, .slice x.g.p x.g.l.length x.g.c]
  have gA : Gr w (w.alloc (.cells #[.int .i64 x.k, .int .i64 x.h.k, .int .i64 x.h.n, .string x.h.s, .slice x.h.p x.h.l.length x.h.c, .int .i64 x.b.k, .int .i64 x.b.n, .string x.b.s, .slice x.b.p x.b.l.length x.b.c, .bool x.f, .int .i64 x.n, .int .i64 x.g.k, .int .i64 x.g.n, .string x.g.s, .slice x.g.p x.g.l.length x.g.c] 38)) := by go_grown
  generalize w.alloc (.cells #[.int .i64 x.k, .int .i64 x.h.k, .int .i64 x.h.n, .string x.h.s, .slice x.h.p x.h.l.length x.h.c, .int .i64 x.b.k, .int .i64 x.b.n, .string x.b.s, .slice x.b.p x.b.l.length x.b.c, .bool x.f, .int .i64 x.n, .int .i64 x.g.k, .int .i64 x.g.n, .string x.g.s, .slice x.g.p x.g.l.length x.g.c] 38) = wA at *
  have HN := Lib.hid hN
  clear hN
  have c0 := HN.out.cell 0 (v := .int .i64 x.k) rfl
  have c1 := HN.out.cell 1 (v := .int .i64 x.h.k) rfl
  have c2 := HN.out.cell 2 (v := .int .i64 x.h.n) rfl
  have c3 := HN.out.cell 3 (v := .string x.h.s) rfl
  have c4 := HN.out.cell 4 (v := .slice x.h.p x.h.l.length x.h.c) rfl
  have c5 := HN.out.cell 5 (v := .int .i64 x.b.k) rfl
  have c6 := HN.out.cell 6 (v := .int .i64 x.b.n) rfl
  have c7 := HN.out.cell 7 (v := .string x.b.s) rfl
  have c8 := HN.out.cell 8 (v := .slice x.b.p x.b.l.length x.b.c) rfl
  have c9 := HN.out.cell 9 (v := .bool x.f) rfl
  rw [Hk.out] at c0
  have HA := Lib.hid gA
  go_upto_region 4 with (first
    | (go_at_call 20; refine (HP.out _ HA.out).mono ?_; rintro e w2 ⟨va', st', h1, rfl, h2, h3, h4⟩; have M2 := Lib.hid (HS.out _ _ _ _ HA.out h2 h3 h4); rw [← keyT_tm] at h1; have H1 := Lib.hid h1; have K3 := Lib.hid (h3.mono hsB); have HN2 := Lib.hid (HN.out.kp K3.out HnB.out); clear h1 h2 h3 h4 c0 c1 c2 c3 c4 c5 c6 c7 c8 c9)
    | fail)
  rw [Hl.out]

  have c1 := HN2.out.cell 1 (v := .int .i64 x.h.k) rfl
  have c2 := HN2.out.cell 2 (v := .int .i64 x.h.n) rfl
  have c3 := HN2.out.cell 3 (v := .string x.h.s) rfl
  have c4 := HN2.out.cell 4 (v := .slice x.h.p x.h.l.length x.h.c) rfl
  have c5 := HN2.out.cell 5 (v := .int .i64 x.b.k) rfl
  have c6 := HN2.out.cell 6 (v := .int .i64 x.b.n) rfl
  have c7 := HN2.out.cell 7 (v := .string x.b.s) rfl
  have c8 := HN2.out.cell 8 (v := .slice x.b.p x.b.l.length x.b.c) rfl
  have c9 := HN2.out.cell 9 (v := .bool x.f) rfl
  have K1 := Lib.hid ((Kp.of_gr HA.out).trans K3.out)
  have hbe : ((s.RL.length : Int) + 1 == (s.RL.length : Int) + 1) = true := by simp
  go_wp2_with (first
    | (go_at_call 21; refine (HRf.out w2 _ (by exact ⟨rfl, rfl⟩) M2.out K1.out).mono ?_; rintro e w4 (⟨h1, _⟩ | ⟨_, p', c', rfl, h5, h6⟩); exact absurd Hp.out h1; have HE := Lib.hid (hR.out wA w4 p' c' st' HA.out H1.out ⟨va', M2.out.ref h5 h6⟩ (K1.out.trans (h6.mono fun b hb => .inr (.inl hb)))); clear h5 h6)
    | fail)
  exact HE.out
end Go.Proofs.YtjdoflfdlhpbmaaDoor

namespace Go.Proofs.YtjdoflfdlhpbmaaDoor
open Go.RowKit Go.Maps Go.Lib

set_option maxHeartbeats 8000000 in
set_option maxRecDepth 100000 in
theorem add_bad (B : Nat) (h b : Tm) (first : Bool) (w : World) (hh : h.In w) (hb : b.In w) (E : Int) (hp : plainErr reserved h.erase b.erase = E) (hE : E ≠ 0) :
    Calls Tryd.prog 20 #[.pointer (some ⟨B, 0, none⟩), .agg #[.int .i64 h.k, .int .i64 h.n, .string h.s, .slice h.p h.l.length h.c, .int .i64 b.k, .int .i64 b.n, .string b.s, .slice b.p b.l.length b.c], .bool first] w fun e w' => e = .returned (.tuple #[.int .i64 0, .int .i64 E]) ∧ Gr w w' := by
  have hR : Hid (∀ w', Gr w w' → (fun (e : Ending) (w' : World) => e = .returned (.tuple #[.int .i64 0, .int .i64 E]) ∧ Gr w w') (.returned (.tuple #[.int .i64 0, .int .i64 E])) w') := fun w' h => ⟨rfl, h⟩
  generalize (fun (e : Ending) (w' : World) => e = .returned (.tuple #[.int .i64 0, .int .i64 E]) ∧ Gr w w') = Q at hR ⊢
  have hpa := Lib.hid (plainAns_bad hp hE)
  have hne : (E != 0) = true := by simp [hE]
  have Hne := Lib.hid hne
  have HI := Lib.hid (And.intro hh hb)
  have Hcv := Lib.hid (clVal_four h b)
  clear hp hE hne hh hb
  go_enter Tryd.func20, Tryd.ntmps20
  try simp only [List.append_eq, List.cons_append, List.nil_append]
  go_upto_region 1 with fail
  have hN : Blk8 (w.alloc (.cells #[.int .i64 h.k, .int .i64 h.n, .string h.s, .slice h.p h.l.length h.c, .int .i64 b.k, .int .i64 b.n, .string b.s, .slice b.p b.l.length b.c] 36)) w.heap.size (.int .i64 h.k) (.int .i64 h.n) (.string h.s) (.slice h.p h.l.length h.c) (.int .i64 b.k) (.int .i64 b.n) (.string b.s) (.slice b.p b.l.length b.c) := heap_alloc_new _ _
  have gw : Gr w (w.alloc (.cells #[.int .i64 h.k, .int .i64 h.n, .string h.s, .slice h.p h.l.length h.c, .int .i64 b.k, .int .i64 b.n, .string b.s, .slice b.p b.l.length b.c] 36)) := by go_grown
  generalize w.alloc (.cells #[.int .i64 h.k, .int .i64 h.n, .string h.s, .slice h.p h.l.length h.c, .int .i64 b.k, .int .i64 b.n, .string b.s, .slice b.p b.l.length b.c] 36) = wA at *
  obtain ⟨c0, c1, c2, c3, c4, c5, c6, c7⟩ := hN.cells
  go_upto_region 2 with (first
    | (go_at_call 62; rewrite [← Hcv.out]; refine (Plain_calls h b _ (Tm.In_below gw HI.out.1) (Tm.In_below gw HI.out.2)).mono ?_; rw [hpa.out]; rintro e w1 ⟨p1, rfl, hi, he, hb⟩; have G1 := Lib.hid (gw.trans hb); have Vp1 := Lib.hid (show p1.val = .agg #[.int .i64 p1.k, .int .i64 p1.n, .string p1.s, .slice p1.p p1.l.length p1.c] from rfl); rewrite [Vp1.out]; clear hb hi he c0 c1 c2 c3 c4 c5 c6 c7 hN gw)
    | fail)
  have gB : Gr w1 (w1.alloc (.cells #[.int .i64 p1.k, .int .i64 p1.n, .string p1.s, .slice p1.p p1.l.length p1.c] 34)) := by go_grown
  generalize w1.alloc (.cells #[.int .i64 p1.k, .int .i64 p1.n, .string p1.s, .slice p1.p p1.l.length p1.c] 34) = w2 at *
  have HE := Lib.hid (hR.out _ (G1.out.trans gB))
  clear gB
  have hne := Hne.out
  go_wp2_with fail
  exact HE.out

set_option maxHeartbeats 8000000 in
set_option maxRecDepth 100000 in
theorem based_add_bad (lo n : Nat) (w : World) (s : PlaySt) (x : Stp) (m₀ : Int) (hm₀ : w.cell? ⟨0, 0, none⟩ = some (.int .i64 m₀)) (h : PlOk lo n w s) (hx : StpOk lo w x) (hk : x.k = 0) (hn : n ≤ 4194304) (hp : plainErr reserved x.h.erase x.b.erase ≠ 0) :
    Calls Tryd.prog 7 #[.pointer (some ⟨s.B, 0, none⟩), .pointer (some ⟨s.R, 0, none⟩), .pointer (some ⟨s.X, 0, none⟩), x.val] w (RetPl lo n s w) := by
  have hR : Hid (∀ w', Gr w w' → RetPl lo n s w (.returned (.bool true)) w') := fun w' h1 => h.same h1
  obtain ⟨E, hE⟩ : ∃ E, plainErr reserved x.h.erase x.b.erase = E := ⟨_, rfl⟩
  rw [hE] at hp
  have HP := Lib.hid (fun W (g : Gr w W) => add_bad s.B x.h x.b x.f W (Tm.In_below g hx.h) (Tm.In_below g hx.b) E hE hp)
  have HRf := Lib.hid (fun W (g : Gr w W) => show Calls Tryd.prog 21 #[.pointer (some ⟨s.R, 0, none⟩), .agg #[.int .i64 x.h.k, .int .i64 x.h.n, .string x.h.s, .slice x.h.p x.h.l.length x.h.c, .int .i64 x.b.k, .int .i64 x.b.n, .string x.b.s, .slice x.b.p x.b.l.length x.b.c], .bool x.f] W (fun e w' => e = .returned (.tuple #[.int .i64 0, .int .i64 E]) ∧ Gr W w') from by
    have hnl2 : ∀ b, b < lo → PlS W s.D b := fun b hb => ⟨by have := (h.m.gr g).lw; omega, fun hd => by have := h.m.low b hd; omega⟩
    refine (rAdd_calls (PlS W s.D) s.R s.rp s.rc s.RL x.h x.b x.f W m₀ (Gr.at g hm₀) ⟨(h.m.gr g).r, (h.m.gr g).rl, fun hh => hh.2 (.inr (.inl rfl))⟩ (fun y hy => hy.1) (Tm.In_below g hx.h) (Tm.In_below g hx.b) (hx.ho.mono hnl2) (hx.bo.mono hnl2) (by have := h.nr; omega)).mono ?_
    intro e w' hr
    rcases hr with ⟨_, h2, h3⟩ | ⟨h1, _⟩
    · rw [hE] at h2
      exact ⟨h2, h3⟩
    · exact absurd (hE.symm.trans h1) hp)
  generalize RetPl lo n s w = Q at hR ⊢
  have Hk := Lib.hid hk
  clear h hx hk hn hp hE hm₀
  rw [Stp.val]
  go_enter Tryd.func7, Tryd.ntmps7
  try simp only [List.append_eq, List.cons_append, List.nil_append]
  go_upto_region 1 with fail
  have hN := BlkT.new w 38 #[.int .i64 x.k, .int .i64 x.h.k, .int .i64 x.h.n, .string x.h.s, .slice x.h.p x.h.l.length x.h.c, .int .i64 x.b.k, .int .i64 x.b.n, .string x.b.s, .slice x.b.p x.b.l.length x.b.c, .bool x.f, .int .i64 x.n, .int .i64 x.g.k, .int .i64 x.g.n, .string x.g.s, .slice x.g.p x.g.l.length x.g.c]
  have gA : Gr w (w.alloc (.cells #[.int .i64 x.k, .int .i64 x.h.k, .int .i64 x.h.n, .string x.h.s, .slice x.h.p x.h.l.length x.h.c, .int .i64 x.b.k, .int .i64 x.b.n, .string x.b.s, .slice x.b.p x.b.l.length x.b.c, .bool x.f, .int .i64 x.n, .int .i64 x.g.k, .int .i64 x.g.n, .string x.g.s, .slice x.g.p x.g.l.length x.g.c] 38)) := by go_grown
  generalize w.alloc (.cells #[.int .i64 x.k, .int .i64 x.h.k, .int .i64 x.h.n, .string x.h.s, .slice x.h.p x.h.l.length x.h.c, .int .i64 x.b.k, .int .i64 x.b.n, .string x.b.s, .slice x.b.p x.b.l.length x.b.c, .bool x.f, .int .i64 x.n, .int .i64 x.g.k, .int .i64 x.g.n, .string x.g.s, .slice x.g.p x.g.l.length x.g.c] 38) = wA at *
  have HN := Lib.hid hN
  clear hN
  have c0 := HN.out.cell 0 (v := .int .i64 x.k) rfl
  have c1 := HN.out.cell 1 (v := .int .i64 x.h.k) rfl
  have c2 := HN.out.cell 2 (v := .int .i64 x.h.n) rfl
  have c3 := HN.out.cell 3 (v := .string x.h.s) rfl
  have c4 := HN.out.cell 4 (v := .slice x.h.p x.h.l.length x.h.c) rfl
  have c5 := HN.out.cell 5 (v := .int .i64 x.b.k) rfl
  have c6 := HN.out.cell 6 (v := .int .i64 x.b.n) rfl
  have c7 := HN.out.cell 7 (v := .string x.b.s) rfl
  have c8 := HN.out.cell 8 (v := .slice x.b.p x.b.l.length x.b.c) rfl
  have c9 := HN.out.cell 9 (v := .bool x.f) rfl
  rw [Hk.out] at c0
  have HA := Lib.hid gA
  clear gA
  go_upto_region 4 with (first
    | (go_at_call 20; refine (HP.out _ HA.out).mono ?_; rintro e w2 ⟨rfl, g2⟩; have G2 := Lib.hid (HA.out.trans g2); have HN2 := Lib.hid (HN.out.gr g2); clear g2 c0 c1 c2 c3 c4 c5 c6 c7 c8 c9)
    | fail)

  have c1 := HN2.out.cell 1 (v := .int .i64 x.h.k) rfl
  have c2 := HN2.out.cell 2 (v := .int .i64 x.h.n) rfl
  have c3 := HN2.out.cell 3 (v := .string x.h.s) rfl
  have c4 := HN2.out.cell 4 (v := .slice x.h.p x.h.l.length x.h.c) rfl
  have c5 := HN2.out.cell 5 (v := .int .i64 x.b.k) rfl
  have c6 := HN2.out.cell 6 (v := .int .i64 x.b.n) rfl
  have c7 := HN2.out.cell 7 (v := .string x.b.s) rfl
  have c8 := HN2.out.cell 8 (v := .slice x.b.p x.b.l.length x.b.c) rfl
  have c9 := HN2.out.cell 9 (v := .bool x.f) rfl
  have hbe : (E == E) = true := by simp
  go_wp2_with (first
    | (go_at_call 21; refine (HRf.out _ G2.out).mono ?_; rintro e w4 ⟨rfl, g4⟩; have HE := Lib.hid (hR.out _ (G2.out.trans g4)); clear g4)
    | fail)
  exact HE.out
end Go.Proofs.YtjdoflfdlhpbmaaDoor

namespace Go.Proofs.YtjdoflfdlhpbmaaDoor
open Go.RowKit Go.Maps Go.Lib

set_option maxHeartbeats 8000000 in
set_option maxRecDepth 100000 in
theorem based_out (lo n : Nat) (w : World) (s : PlaySt) (x : Stp) (h : PlOk lo n w s) (hk : x.k = 6) (ho : x.n < 0 ∨ (0 ≤ x.n ∧ (s.vs.length : Int) ≤ x.n)) :
    Calls Tryd.prog 7 #[.pointer (some ⟨s.B, 0, none⟩), .pointer (some ⟨s.R, 0, none⟩), .pointer (some ⟨s.X, 0, none⟩), x.val] w (RetPl lo n s w) := by
  have hR : Hid (∀ w', Gr w w' → RetPl lo n s w (.returned (.bool true)) w') := fun w' h1 => h.same h1
  obtain ⟨q, cp, hvv, _⟩ := row_form h.m.o
  have HX := Lib.hid h.m.x
  rw [hvv] at HX
  generalize RetPl lo n s w = Q at hR ⊢
  have Hk := Lib.hid hk
  have Ho := Lib.hid ho
  clear h hk ho hvv
  rw [Stp.val]
  go_enter Tryd.func7, Tryd.ntmps7
  try simp only [List.append_eq, List.cons_append, List.nil_append]
  go_upto_region 1 with fail
  have hN := BlkT.new w 38 #[.int .i64 x.k, .int .i64 x.h.k, .int .i64 x.h.n, .string x.h.s, .slice x.h.p x.h.l.length x.h.c, .int .i64 x.b.k, .int .i64 x.b.n, .string x.b.s, .slice x.b.p x.b.l.length x.b.c, .bool x.f, .int .i64 x.n, .int .i64 x.g.k, .int .i64 x.g.n, .string x.g.s, .slice x.g.p x.g.l.length x.g.c]
  have gA : Gr w (w.alloc (.cells #[.int .i64 x.k, .int .i64 x.h.k, .int .i64 x.h.n, .string x.h.s, .slice x.h.p x.h.l.length x.h.c, .int .i64 x.b.k, .int .i64 x.b.n, .string x.b.s, .slice x.b.p x.b.l.length x.b.c, .bool x.f, .int .i64 x.n, .int .i64 x.g.k, .int .i64 x.g.n, .string x.g.s, .slice x.g.p x.g.l.length x.g.c] 38)) := by go_grown
  generalize w.alloc (.cells #[.int .i64 x.k, .int .i64 x.h.k, .int .i64 x.h.n, .string x.h.s, .slice x.h.p x.h.l.length x.h.c, .int .i64 x.b.k, .int .i64 x.b.n, .string x.b.s, .slice x.b.p x.b.l.length x.b.c, .bool x.f, .int .i64 x.n, .int .i64 x.g.k, .int .i64 x.g.n, .string x.g.s, .slice x.g.p x.g.l.length x.g.c] 38) = wA at *
  have HN := Lib.hid hN
  clear hN
  have c0 := HN.out.cell 0 (v := .int .i64 x.k) rfl
  have c10 := HN.out.cell 10 (v := .int .i64 x.n) rfl
  rw [Hk.out] at c0
  have HA := Lib.hid gA
  have r0 := (HX.out.gr gA).cell 0 (v := .slice q s.vs.length cp) rfl
  clear gA
  rcases Ho.out with h1 | ⟨h1, h2⟩
  · have hd : decide (x.n < 0) = true := by simpa using h1
    go_upto_region 18 with fail
    go_quiet (fail)
    go_wp2_with fail
    exact hR.out _ (HA.out.drewN _)
  · have hd : decide (x.n < 0) = false := by simpa using h1
    have hd2 : decide (x.n ≥ (s.vs.length : Int)) = true := by simpa using h2
    have hd3 : decide ((s.vs.length : Int) ≤ x.n) = true := by simpa using h2
    go_upto_region 18 with fail
    go_quiet (fail)
    go_wp2_with fail
    exact hR.out _ (HA.out.drewN _)
end Go.Proofs.YtjdoflfdlhpbmaaDoor

namespace Go.Proofs.YtjdoflfdlhpbmaaDoor
open Go.RowKit Go.Maps Go.Lib

/-- The first that is let through stands at the head of what must be told. -/
theorem vwAg_some {y : Vw} (h : VwAg y) {x : HdT} {r : List HdT} (hn : nextT y.G.erase (y.M.map Hd.er) = some (x, r)) : ∃ (z : Hr) (N' : List Hr), y.N = z :: N' ∧ z.er.d = x ∧ (r.filter fun u => letsT y.G.erase u.h) = (N'.map Hr.er).map HrT.d := by
  have h1 := h.f
  rw [nextT_filter, hn] at h1
  cases hN : y.N with
  | nil => rw [hN] at h1; simp at h1
  | cons z N' =>
    rw [hN] at h1
    simp only [List.map_cons] at h1
    injection h1 with h2 h3
    exact ⟨z, N', rfl, h2.symm, h3⟩
/-- Nothing is let through: nothing must be told. -/
theorem vwAg_none {y : Vw} (h : VwAg y) (hn : nextT y.G.erase (y.M.map Hd.er) = none) : y.N = [] := by
  have h1 := h.f
  rw [nextT_filter, hn] at h1
  cases hN : y.N with
  | nil => rfl
  | cons z N' => rw [hN] at h1; simp at h1
end Go.Proofs.YtjdoflfdlhpbmaaDoor

namespace Go.Proofs.YtjdoflfdlhpbmaaDoor
open Go.RowKit

set_option maxHeartbeats 1000000 in
set_option maxRecDepth 100000 in
theorem none_gen (p : Option Addr) (c : Nat) (w : World) : Calls Tryd.prog 14 #[(Tm.mk 0 0 ⟨#[]⟩ p c []).val] w (Ret (.bool true) w) := by
  simp only [Tm.val, Tm.k, Tm.n, Tm.s, Tm.p, Tm.c, Tm.l, List.length_nil]
  go_enter Tryd.func14, Tryd.ntmps14
  go_wp2_with fail
  go_ret
  exact ret_bool rfl (by go_grown)

end Go.Proofs.YtjdoflfdlhpbmaaDoor

namespace Go.Proofs.YtjdoflfdlhpbmaaDoor
open Go.RowKit Go.Maps Go.Lib

set_option maxHeartbeats 8000000 in
set_option maxRecDepth 100000 in
theorem based_done (lo n : Nat) (w : World) (s : PlaySt) (x : Stp) (k : Nat) (hkl : k < s.vs.length) (h : PlOk lo n w s) (hk : x.k = 6) (hkx : x.n = k) (hn : n ≤ 4194304) (hno : nextT s.vs[k].G.erase (s.vs[k].M.map Hd.er) = none) :
    Calls Tryd.prog 7 #[.pointer (some ⟨s.B, 0, none⟩), .pointer (some ⟨s.R, 0, none⟩), .pointer (some ⟨s.X, 0, none⟩), x.val] w (RetPl lo n s w) := by
  have hm : s.vs[k] ∈ s.vs := List.getElem_mem hkl
  have hag := h.e _ hm
  have hN := vwAg_none hag hno
  obtain ⟨g, cap, cur, hvv, h1, h2, h3, hrow⟩ := h.m.row (by omega)
  have hlen : s.vs.length ≤ 4194304 := Nat.le_trans h.nv hn
  obtain ⟨r1, r2⟩ := hrow k hkl
  rw [hN] at r2
  have hgV : ¬ s.vs[k].V = g := fun e => (h.m.v1 _ (List.mem_map.2 ⟨_, hm, rfl⟩)).2.2.2 (by rw [hvv, e]; rfl)
  have HX := Lib.hid h.m.x
  rw [hvv] at HX
  have Hnext := Lib.hid (fun W (gr : Gr w W) => by
    have hv := (h.m.gr gr).each _ hm
    have := next_calls (PlS W s.D) s.vs[k].V s.vs[k].G s.vs[k].M s.vs[k].p s.vs[k].c W (fun hh => hh.2 (.inr (.inr (.inr (.inr (List.mem_map.2 ⟨_, hm, rfl⟩)))))) (fun b hb => hb.1) hv.v hv.m hv.g hv.go (eOk.tm hag.e)
    rw [hno] at this
    exact this)
  have hR : Hid (∀ W w' p' c', Gr w W → BlkT w' s.vs[k].V 130 (viewCells p' 0 c' s.vs[k].G) → HSl (PlS W s.D) w' p' c' [] → Kp (fun b => b = s.vs[k].V) W w' → RetPl lo n s w (.returned (.bool true)) w') := fun W w' p' c' h0 h1 h2 h3 => by
    have hp := (h.m.gr h0).next hkl (L' := []) h1 h2 h3
    refine ⟨rfl, _, ⟨hp, h.a, h.c, fun y hy => ?_, Nat.le_succ_of_le h.nr, by simp only [List.length_set]; exact Nat.le_succ_of_le h.nv⟩, rfl, rfl, rfl, (Kp.of_gr h0).trans (h3.mono fun b (hb : b = s.vs[k].V) => h.m.low b (.inr (.inr (.inr (.inr (by rw [hb]; exact List.mem_map.2 ⟨_, hm, rfl⟩))))))⟩
    rcases List.mem_or_eq_of_mem_set hy with hy | rfl
    · exact h.e y hy
    · exact ⟨fun z hz => (by simp at hz), by simp [hN]⟩
  generalize RetPl lo n s w = Q at hR ⊢
  generalize s.vs[k] = y at *
  have Hk := Lib.hid hk
  have hd : decide ((k : Int) < 0) = false := by simp
  have hd2 : decide ((k : Int) ≥ (s.vs.length : Int)) = false := by simp; omega
  have hd3 : decide ((s.vs.length : Int) ≤ (k : Int)) = false := by simp; omega
  have Hkx := Lib.hid hkx
  clear h hk hkx hn hno hN hag hm hrow hvv h2 h3
  rw [Stp.val]
  go_enter Tryd.func7, Tryd.ntmps7
  try simp only [List.append_eq, List.cons_append, List.nil_append]
  go_upto_region 1 with fail
  have hN := BlkT.new w 38 #[.int .i64 x.k, .int .i64 x.h.k, .int .i64 x.h.n, .string x.h.s, .slice x.h.p x.h.l.length x.h.c, .int .i64 x.b.k, .int .i64 x.b.n, .string x.b.s, .slice x.b.p x.b.l.length x.b.c, .bool x.f, .int .i64 x.n, .int .i64 x.g.k, .int .i64 x.g.n, .string x.g.s, .slice x.g.p x.g.l.length x.g.c]
  have gA : Gr w (w.alloc (.cells #[.int .i64 x.k, .int .i64 x.h.k, .int .i64 x.h.n, .string x.h.s, .slice x.h.p x.h.l.length x.h.c, .int .i64 x.b.k, .int .i64 x.b.n, .string x.b.s, .slice x.b.p x.b.l.length x.b.c, .bool x.f, .int .i64 x.n, .int .i64 x.g.k, .int .i64 x.g.n, .string x.g.s, .slice x.g.p x.g.l.length x.g.c] 38)) := by go_grown
  generalize w.alloc (.cells #[.int .i64 x.k, .int .i64 x.h.k, .int .i64 x.h.n, .string x.h.s, .slice x.h.p x.h.l.length x.h.c, .int .i64 x.b.k, .int .i64 x.b.n, .string x.b.s, .slice x.b.p x.b.l.length x.b.c, .bool x.f, .int .i64 x.n, .int .i64 x.g.k, .int .i64 x.g.n, .string x.g.s, .slice x.g.p x.g.l.length x.g.c] 38) = wA at *
  have HN := Lib.hid hN
  clear hN
  have c0 := HN.out.cell 0 (v := .int .i64 x.k) rfl
  have c10 := HN.out.cell 10 (v := .int .i64 x.n) rfl
  rw [Hk.out] at c0
  rw [Hkx.out] at c10
  have HA := Lib.hid gA
  have r0 := (HX.out.gr gA).cell 0 (v := .slice (some ⟨g, 0, none⟩) s.vs.length cap) rfl
  have y1 := Gr.at gA r1
  have y2 := Gr.at gA r2
  clear gA r1 r2
  go_upto_region 18 with fail
  go_quiet (fail)
  go_upto_region 20 with fail
  go_quiet (fail)
  have Hnone := Lib.hid (fun W => show Calls Tryd.prog 14 #[.agg #[.int .i64 0, .int .i64 0, .string ⟨#[]⟩, .slice none 0 0]] W (Ret (.bool true) W) from none_gen none 0 W)
  go_upto_region 22 with (first
    | (go_at_call 29; refine (Hnext.out _ (HA.out.drewN _)).mono ?_; rintro e w2 ⟨L, p', c', hb, hl, hkp, rfl, rfl⟩; rewrite [show clVal zeroTm zeroTm = .agg #[.int .i64 0, .int .i64 0, .string ⟨#[]⟩, .slice none 0 0, .int .i64 0, .int .i64 0, .string ⟨#[]⟩, .slice none 0 0] from rfl]; replace y2 := hkp.cell (Gr.at ((Gr.rfl' wA).drewN _) y2) (fun e => hgV (show y.V = g from (show g = y.V from e).symm)); have HE := Lib.hid (fun W9 (g9 : Gr w2 W9) => hR.out _ W9 p' c' (HA.out.drewN _) (hb.gr g9) (hl.gr g9) (hkp.trans (Kp.of_gr g9))); clear hb hl hkp)
    | fail)
  have hD : Blk8 (w2.alloc (.cells #[.int .i64 0, .int .i64 0, .string ⟨#[]⟩, .slice none 0 0, .int .i64 0, .int .i64 0, .string ⟨#[]⟩, .slice none 0 0] 36)) w2.heap.size (.int .i64 0) (.int .i64 0) (.string ⟨#[]⟩) (.slice none 0 0) (.int .i64 0) (.int .i64 0) (.string ⟨#[]⟩) (.slice none 0 0) := heap_alloc_new _ _
  have gB : Gr w2 (w2.alloc (.cells #[.int .i64 0, .int .i64 0, .string ⟨#[]⟩, .slice none 0 0, .int .i64 0, .int .i64 0, .string ⟨#[]⟩, .slice none 0 0] 36)) := by go_grown
  generalize w2.alloc (.cells #[.int .i64 0, .int .i64 0, .string ⟨#[]⟩, .slice none 0 0, .int .i64 0, .int .i64 0, .string ⟨#[]⟩, .slice none 0 0] 36) = w3 at *
  replace y2 := Gr.at gB y2
  have G3 := Lib.hid gB
  clear gB
  obtain ⟨z0, z1, z2, z3, z4, z5, z6, z7⟩ := hD.cells
  go_wp2_with (first
    | (go_at_call 14; refine (Hnone.out _).mono ?_; rintro e w4 ⟨rfl, g4⟩; replace G3 := Lib.hid (G3.out.trans g4); replace z4 := Gr.at g4 z4; replace z5 := Gr.at g4 z5; replace z6 := Gr.at g4 z6; replace z7 := Gr.at g4 z7; clear g4)
    | fail)
  exact HE.out _ G3.out
end Go.Proofs.YtjdoflfdlhpbmaaDoor

namespace Go.Proofs.YtjdoflfdlhpbmaaDoor
open Go.RowKit

mutual
theorem T.same_self : ∀ t : T, T.same t t = true
  | .mk k n s l => by simp [T.same, T.sameL_self l]
theorem T.sameL_self : ∀ l : List T, T.sameL l l = true
  | [] => by simp [T.sameL]
  | x :: xs => by simp [T.sameL, T.same_self x, T.sameL_self xs]
end

end Go.Proofs.YtjdoflfdlhpbmaaDoor
