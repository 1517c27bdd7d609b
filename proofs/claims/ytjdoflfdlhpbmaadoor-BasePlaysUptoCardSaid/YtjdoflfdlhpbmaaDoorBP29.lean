/-
  hornlaw.seen where a view is made.
  hornlaw.based where nothing turns, and where seen is asked.
  An argument of type []hornlaw.BaseStep.
-/
import Derived.Test.YtjdoflfdlhpbmaaDoorBP28
import Derived.Test.YtjdoflfdlhpbmaaDoorBP19
import Derived.Test.YtjdoflfdlhpbmaaDoorBP02
import Derived.Test.YtjdoflfdlhpbmaaDoorBP03
import Derived.Test.YtjdoflfdlhpbmaaDoorBP08
namespace Go.Proofs.YtjdoflfdlhpbmaaDoor
open Go.RowKit Go.Maps Go.Lib

theorem infoViewed : (Tryd.prog.info? 71).map (fun i => (i.zero, i.size, i.bytes)) = some (some (.agg #[.pointer none, .slice none 0 0]), 2, 32) := by kernel_rfl
def nlV (S : Nat → Prop) (N : List Hr) : VP := fun v w => ∃ (q : Option Addr) (d : Nat), v = .slice q N.length d ∧ HrSl S w q d N
theorem nlV_stable {S C : Nat → Prop} {N : List Hr} (hS : ∀ b, S b → ¬ C b) : ∀ v w w', nlV S N v w → Kp C w w' → nlV S N v w' := fun _ _ _ ⟨q, d, h1, h2⟩ hk => ⟨q, d, h1, h2.kp hk hS⟩
def vwV (S : Nat → Prop) (V : Nat) (N : List Hr) : VP := fun v w => ∃ (q : Option Addr) (d : Nat), v = .agg #[.pointer (some ⟨V, 0, none⟩), .slice q N.length d] ∧ HrSl S w q d N
theorem vwV_stable {S C : Nat → Prop} {V : Nat} {N : List Hr} (hS : ∀ b, S b → ¬ C b) : ∀ v w w', vwV S V N v w → Kp C w w' → vwV S V N v w' := fun _ _ _ ⟨q, d, h1, h2⟩ hk => ⟨q, d, h1, h2.kp hk hS⟩
/-- A slice of one new view. -/
def oneVw (B0 : Nat) (S : Nat → Prop) (V : Nat) (N : List Hr) : VP := fun v w => ∃ (B : Nat) (q : Option Addr) (d : Nat), v = .slice (some ⟨B, 0, none⟩) 1 1 ∧ B0 ≤ B ∧ BlkT w B 71 #[.pointer (some ⟨V, 0, none⟩), .slice q N.length d] ∧ HrSl S w q d N
theorem oneVw_stable {B0 : Nat} {S : Nat → Prop} {V : Nat} {N : List Hr} : ∀ v w w', oneVw B0 S V N v w → Gr w w' → oneVw B0 S V N v w' := fun _ _ _ ⟨B, q, d, h1, h2, h3, h4⟩ hg => ⟨B, q, d, h1, h2, h3.gr hg, h4.gr hg⟩
/-- append of one new view. -/
theorem append_oneVw (w : World) (B : Nat) (v : Value) (n : Nat) (xs : List Value) (g : Nat) (a b : Value) (h3 : BlkT w g 71 #[a, b]) (ha : a.oneCell' = true) (hb : b.oneCell' = true) (h : w.ownsRow B 71 2 v n xs) (hB : B ≤ w.heap.size) (hl : (n + 1) * 32 ≤ 140737488351232) :
    ∃ v' w', (Builtin.append_ #[28, 28] 28 #[v, .slice (some ⟨g, 0, none⟩) 1 1]).run Tryd.prog w = .ok v' w' ∧ w'.ownsRow B 71 2 v' (n + 1) (xs ++ [a, b]) ∧ w.grownBy w' v.ownBlock ∧ (v'.ownBlock = v.ownBlock ∨ v'.ownBlock = some w.heap.size) := by
  obtain ⟨i0, hi, hz0, hz1, hz2⟩ := info_parts infoViewed
  exact run_append_own_fresh (P := Tryd.prog) w B 28 28 71 i0 _ 2 32 Tryd.underlying28 hi hz0 hz1 hz2 rfl (by decide) v n xs h
    ⟨g, 0, none⟩ 1 1 [a, b] rfl (fun j u hu => by rw [Go.WideShapes.add_plain, Nat.zero_add, cell_of_row w g _ _ _ _ h3, List.getElem?_toArray]; exact hu) (fun u hu => by
      simp only [List.mem_cons, List.mem_nil_iff, or_false] at hu
      rcases hu with rfl | rfl
      · exact ha
      · exact hb) (by simp only [maxLen]; omega) (by omega) hB (by omega)
/-- What the append hands back. -/
def outVw (lo n : Nat) (S : Nat → Prop) (V : Nat) (N : List Hr) (vv : Value) (xs : List Value) (wV : World) : VP := fun v' w1 => ∃ (wa : World) (q : Option Addr) (d : Nat), Gr wV wa ∧ HrSl S wa q d N ∧ Kp (fun b => vv.ownBlock = some b) wa w1 ∧ w1.ownsRow lo 71 2 v' (n + 1) (xs ++ [.pointer (some ⟨V, 0, none⟩), .slice q N.length d]) ∧ (v'.ownBlock = vv.ownBlock ∨ v'.ownBlock = some wa.heap.size)
theorem outVw_stable {lo n : Nat} {S : Nat → Prop} {V : Nat} {N : List Hr} {vv : Value} {xs : List Value} {wV : World} : ∀ v w w', outVw lo n S V N vv xs wV v w → Gr w w' → outVw lo n S V N vv xs wV v w' := fun _ _ _ ⟨wa, q, d, h1, h2, h3, h4, h5⟩ hg => ⟨wa, q, d, h1, h2, h3.trans (Kp.of_gr hg), ownsRow_gr h4 hg, h5⟩
/-- ChainJ, and nothing has turned ahead of operation k. -/
structure ChainK (w0 : World) (m i1 d1 i2 d2 k e : Nat) (X1 X2 Y : VP) (listed : Array Bool) (a : Act) (w : World) : Prop where
  c : ChainJ m i1 d1 i2 d2 k e X1 X2 Y listed a w
  g : listed.getD k false = false → Gr w0 w
section
variable {w0 : World} {m i1 d1 i2 d2 k e : Nat} {X1 X2 Y : VP} {listed : Array Bool} {a : Act} {w w' : World} {v : Value}
theorem ChainK.start (n : Nat) (a : Act) (w : World) (h : a.tmps.size = m) (hg : Gr w0 w) : ChainK w0 m i1 d1 i2 d2 k e X1 X2 Y (Array.replicate n false) a w := ⟨ChainJ.start n a w h, fun _ => hg⟩
theorem ChainK.put {j : Nat} {t : Option Tmp} (hjk : j ≠ k) (h : ChainK w0 m i1 d1 i2 d2 k e X1 X2 Y listed a w) (hg : Gr w w') (hc : ChainJ m i1 d1 i2 d2 k e X1 X2 Y (listed.setIfInBounds j true) (a.put t v) w') : ChainK w0 m i1 d1 i2 d2 k e X1 X2 Y (listed.setIfInBounds j true) (a.put t v) w' :=
  ⟨hc, fun hk => (h.g (by rw [getD_set_ne false hjk] at hk; exact hk)).trans hg⟩
theorem ChainK.other (h1 : ∀ v w w', X1 v w → Gr w w' → X1 v w') (h2 : ∀ v w w', X2 v w → Gr w w' → X2 v w') (h3 : ∀ v w w', Y v w → Gr w w' → Y v w') {j : Nat} {t : Option Tmp} (hi : (j != i1 && j != i2 && j != k && t != some d1 && t != some d2 && t != some e) = true)
    (listed : Array Bool) (a : Act) (w w' : World) (v : Value) (h : ChainK w0 m i1 d1 i2 d2 k e X1 X2 Y listed a w) (hg : Gr w w') : ChainK w0 m i1 d1 i2 d2 k e X1 X2 Y (listed.setIfInBounds j true) (a.put t v) w' :=
  h.put (by simp only [Bool.and_eq_true, bne_iff_ne] at hi; exact hi.1.1.1.2) hg (ChainJ.other h1 h2 h3 hi listed a w w' v h.c hg)
theorem ChainK.last (hl : listed.getD k true = false) (hc : ChainJ m i1 d1 i2 d2 k e X1 X2 Y (listed.setIfInBounds k true) (a.put (some e) v) w') : ChainK w0 m i1 d1 i2 d2 k e X1 X2 Y (listed.setIfInBounds k true) (a.put (some e) v) w' :=
  ⟨hc, fun hh => by rw [getD_set_eq hl] at hh; cases hh⟩
end
/-- A view is put behind the others. -/
theorem PlOk.pushed {lo n : Nat} {w : World} {s : PlaySt} (h : PlOk lo n w s) {y : Vw} {g : T} {wV wa w1 : World} {v' : Value} (g1 : Gr w wV) (hV : w.heap.size ≤ y.V) (hv : BlkT wV y.V 130 (viewCells y.p y.M.length y.c y.G)) (hm : HSl (PlS w s.D) wV y.p y.c y.M) (hme : y.M.map Hd.er = (s.st.pr (keyT g)).getD []) (hG : y.G.In wV) (hGe : y.G.erase = g)
    (hGo : y.G.On (fun b => w.heap.size ≤ b ∧ b ≠ y.V)) (g2 : Gr wV wa) (hN : HrSl (fun b => PlS w s.D b ∨ wV.heap.size ≤ b) wa y.q y.d y.N) (hNe : y.N = s.RL.filter fun z => viewP g z.er) (hk : Kp (fun b => s.vv.ownBlock = some b) wa w1) (ho : w1.ownsRow lo 71 2 v' (s.vs.length + 1) (s.vs.flatMap Vw.cells ++ y.cells))
    (hoc : v'.ownBlock = s.vv.ownBlock ∨ v'.ownBlock = some wa.heap.size) : RetPl lo n s w (.returned (.bool true)) (w1.setCell ⟨s.X, 0, none⟩ v') := by
  have hVl : y.V < wV.heap.size := hv.lt
  have hs1 := g1.size
  have hs2 := g2.size
  obtain ⟨hm1, hk1⟩ := h.m.push (g1.trans g2) hV (by omega) (y := y) ⟨hv.gr g2, (hm.gr g2).mono fun b hb _ => ⟨.inl hb, by have := hb.1; omega⟩, Tm.In_below g2 hG, hGo.mono fun b hb => ⟨.inr hb.1, hb.2⟩, hN.mono fun b hb _ => hb.elim (fun hb => ⟨.inl hb, by have := hb.1; omega⟩) fun hb => ⟨.inr (by omega), by omega⟩⟩ hk ho hoc
  refine ⟨rfl, _, ⟨hm1, h.a, h.c, fun z hz => ?_, Nat.le_succ_of_le h.nr, ?_⟩, rfl, rfl, rfl, hk1.mono fun b hb => ?_⟩
  · rcases List.mem_append.1 hz with hz | hz
    · exact h.e z hz
    · rw [List.mem_singleton] at hz
      subst hz
      subst hGe
      refine ⟨?_, ?_⟩
      · rw [hme]
        refine hds_eOk fun x hx => ?_
        cases hp : s.st.pr (keyT z.G.erase) with
        | none => rw [hp] at hx; cases hx
        | some L =>
          rw [hp] at hx
          have := h.m.b.hds _ L hp x hx
          rw [keyT_tm] at this
          exact this
      · rw [hme, hNe]
        exact (h.view _).symm
  · have := h.nv
    simp only [List.length_append, List.length_cons, List.length_nil]
    omega
  · exact hb.elim (fun hb => h.m.low b (.inr (.inr (.inr (.inl hb))))) fun hb => h.m.low b (.inr (.inr (.inl hb)))

set_option maxHeartbeats 8000000 in
set_option maxRecDepth 100000 in
theorem seen_view (lo n : Nat) (w : World) (s : PlaySt) (x : Stp) (h : PlOk lo n w s) (hg : x.g.In w) (hgo : x.g.On (· < lo)) (hk : x.k = 5) (hn : n ≤ 4194304) (hf : x.g.erase.formed = true) (hc : x.g.erase.callable = true) :
    Calls Tryd.prog 28 #[.pointer (some ⟨s.B, 0, none⟩), .pointer (some ⟨s.R, 0, none⟩), .pointer (some ⟨s.X, 0, none⟩), x.val] w (RetPl lo n s w) := by
  have hR : Hid (∀ (y : Vw) (wV wa w1 : World) (v' : Value), Gr w wV → w.heap.size ≤ y.V → BlkT wV y.V 130 (viewCells y.p y.M.length y.c y.G) → HSl (PlS w s.D) wV y.p y.c y.M → y.M.map Hd.er = (s.st.pr (keyT x.g.erase)).getD [] → y.G.In wV → y.G.erase = x.g.erase → y.G.On (fun b => w.heap.size ≤ b ∧ b ≠ y.V) → Gr wV wa →
      HrSl (fun b => PlS w s.D b ∨ wV.heap.size ≤ b) wa y.q y.d y.N → (y.N = s.RL.filter fun z => viewP x.g.erase z.er) → Kp (fun b => s.vv.ownBlock = some b) wa w1 → w1.ownsRow lo 71 2 v' (s.vs.length + 1) (s.vs.flatMap Vw.cells ++ y.cells) → (v'.ownBlock = s.vv.ownBlock ∨ v'.ownBlock = some wa.heap.size) → RetPl lo n s w (.returned (.bool true)) (w1.setCell ⟨s.X, 0, none⟩ v')) :=
    fun y wV wa w1 v' h1 h2 h3 h4 h5 h6 h7 h8 h9 h10 h11 h12 h13 h14 => h.pushed h1 h2 h3 h4 h5 h6 h7 h8 h9 h10 h11 h12 h13 h14
  generalize RetPl lo n s w = Q at hR ⊢
  have HGv := Lib.hid (show x.g.val = .agg #[.int .i64 x.g.k, .int .i64 x.g.n, .string x.g.s, .slice x.g.p x.g.l.length x.g.c] from rfl)
  have Hform := Lib.hid (fun W (g : Gr w W) => show Calls Tryd.prog 13 #[.agg #[.int .i64 x.g.k, .int .i64 x.g.n, .string x.g.s, .slice x.g.p x.g.l.length x.g.c]] W (Ret (.bool true) W) from by have := rformed_calls (Tm.In_below g hg); rw [hf] at this; exact this)
  obtain ⟨f, hm1, hrow⟩ := h.m.b.m1
  obtain ⟨p, c, L, hff, hL, hLe⟩ : ∃ (p : Option Addr) (c : Nat) (L : List Hd), (f (x.g.s, (x.g.l.length : Int))).getD (.slice none 0 0) = .slice p L.length c ∧ HSl (PlS w s.D) w p c L ∧ L.map Hd.er = (s.st.pr (keyT x.g.erase)).getD [] := by
    have hr := hrow (x.g.s, (x.g.l.length : Int))
    rw [keyT_tm]
    cases hp : s.st.pr (x.g.s, (x.g.l.length : Int)) with
    | none =>
      rw [hp] at hr
      rw [show f (x.g.s, (x.g.l.length : Int)) = none from hr]
      exact ⟨none, 0, [], rfl, ⟨Nat.le_refl _, by simp, by omega, .inl rfl, fun x hx => by cases hx⟩, rfl⟩
    | some LT =>
      rw [hp] at hr
      obtain ⟨p, c, M, h1, h2, h3⟩ := hr
      rw [h1]
      exact ⟨p, c, M, rfl, h2, h3⟩
  have Hview := Lib.hid (fun W (g : Gr w W) => show Calls Tryd.prog 74 #[.pointer (some ⟨s.B, 0, none⟩), .agg #[.int .i64 x.g.k, .int .i64 x.g.n, .string x.g.s, .slice x.g.p x.g.l.length x.g.c]] W _ from view_gen (PlS w s.D) s.B s.M1 _ _ _ f x.g p c L W (h.m.b.blk.gr g) (hm1.gr g) hff (hL.gr g) (Tm.In_below g hg) hf hc)
  have nS : ∀ b, PlS w s.D b → ¬ s.vv.ownBlock = some b := fun b hb hc => hb.2 (.inr (.inr (.inr (.inl hc))))
  have Hrv := Lib.hid (fun W (g : Kp (fun b => s.vv.ownBlock = some b) w W) => show Calls Tryd.prog 73 #[.pointer (some ⟨s.R, 0, none⟩), .agg #[.int .i64 x.g.k, .int .i64 x.g.n, .string x.g.s, .slice x.g.p x.g.l.length x.g.c]] W _ from rView_calls (PlS w s.D) s.R s.rp s.rc s.RL x.g W
    ⟨h.m.r.kp g (fun hc => (h.m.ov _ hc).2.1 rfl), h.m.rl.kp g nS, fun hh => hh.2 (.inr (.inl rfl))⟩ (tm_kp hg hgo (fun b hb hc => by have := h.m.low b (.inr (.inr (.inr (.inl hc)))); omega) g) (by have := h.nr; omega))
  have nX : ¬ s.vv.ownBlock = some s.X := fun hc => (h.m.ov _ hc).2.2 rfl
  have nB : ¬ s.vv.ownBlock = some w.heap.size := fun hc => by have := h.m.lt _ (.inr (.inr (.inr (.inl hc)))); omega
  have ovl : ∀ b, s.vv.ownBlock = some b → b < w.heap.size := fun b hc => h.m.lt _ (.inr (.inr (.inr (.inl hc))))
  have HX := Lib.hid h.m.x
  have HO := Lib.hid h.m.o
  have HLe := Lib.hid hLe
  have Hlw := Lib.hid h.m.lw
  have hvs : s.vs.length ≤ 4194304 := Nat.le_trans h.nv hn
  have HnS := Lib.hid nS
  have Hovl := Lib.hid ovl
  have hkk : (x.g.k != 3) = false ∨ ((x.g.k != 3) = true ∧ (x.g.k != 4) = false) := by
    have hk : x.g.erase.k = x.g.k := by obtain ⟨_, _, _, _, _, _⟩ := x.g; rfl
    rw [T.callable, hk] at hc
    simp only [Bool.or_eq_true, decide_eq_true_eq] at hc
    by_cases h3 : x.g.k = 3
    · exact .inl (by simp [h3])
    · exact .inr ⟨by simp [h3], by have := hc.resolve_left h3; simp [this]⟩
  have Hkk := Lib.hid hkk
  have Hk := Lib.hid hk
  clear h hkk hk hf hc hn hm1 hrow hff hL hLe nS ovl hg hgo
  rw [Stp.val]
  go_enter Tryd.func28, Tryd.ntmps28
  try simp only [List.append_eq, List.cons_append, List.nil_append]
  go_upto_region 1 with fail
  have hN := BlkT.new w 38 #[.int .i64 x.k, .int .i64 x.h.k, .int .i64 x.h.n, .string x.h.s, .slice x.h.p x.h.l.length x.h.c, .int .i64 x.b.k, .int .i64 x.b.n, .string x.b.s, .slice x.b.p x.b.l.length x.b.c, .bool x.f, .int .i64 x.n, .int .i64 x.g.k, .int .i64 x.g.n, .string x.g.s, .slice x.g.p x.g.l.length x.g.c]
  have gA : Gr w (w.alloc (.cells #[.int .i64 x.k, .int .i64 x.h.k, .int .i64 x.h.n, .string x.h.s, .slice x.h.p x.h.l.length x.h.c, .int .i64 x.b.k, .int .i64 x.b.n, .string x.b.s, .slice x.b.p x.b.l.length x.b.c, .bool x.f, .int .i64 x.n, .int .i64 x.g.k, .int .i64 x.g.n, .string x.g.s, .slice x.g.p x.g.l.length x.g.c] 38)) := by go_grown
  generalize w.alloc (.cells #[.int .i64 x.k, .int .i64 x.h.k, .int .i64 x.h.n, .string x.h.s, .slice x.h.p x.h.l.length x.h.c, .int .i64 x.b.k, .int .i64 x.b.n, .string x.b.s, .slice x.b.p x.b.l.length x.b.c, .bool x.f, .int .i64 x.n, .int .i64 x.g.k, .int .i64 x.g.n, .string x.g.s, .slice x.g.p x.g.l.length x.g.c] 38) = wA at *
  have HN := Lib.hid hN
  clear hN
  have c0 := HN.out.cell 0 (v := .int .i64 x.k) rfl
  have c11 := HN.out.cell 11 (v := .int .i64 x.g.k) rfl
  have c12 := HN.out.cell 12 (v := .int .i64 x.g.n) rfl
  have c13 := HN.out.cell 13 (v := .string x.g.s) rfl
  have c14 := HN.out.cell 14 (v := .slice x.g.p x.g.l.length x.g.c) rfl
  rw [Hk.out] at c0
  rcases Hkk.out with hk3 | ⟨hk3, hk4⟩
  all_goals
    go_upto_region 20 with (first
      | (go_at_call 13; refine (Hform.out _ gA).mono ?_; rintro e w2 ⟨rfl, hg2⟩; replace hg2 : Gr wA w2 := hg2; have G2 := Lib.hid (gA.trans hg2); have hs2 := G2.out.size; replace c0 := Gr.at hg2 c0; replace c11 := Gr.at hg2 c11; replace c12 := Gr.at hg2 c12; replace c13 := Gr.at hg2 c13; replace c14 := Gr.at hg2 c14; have HN2 := Lib.hid (HN.out.gr hg2); clear hg2)
      | (go_at_call 74; refine (Hview.out _ G2.out).mono ?_; rintro e wV ⟨V, p2, c2, M, G', rfl, hv1, hv2, hv3, hv4, hv5, hv6, hv7, hg3⟩; have G3 := Lib.hid (G2.out.trans hg3); have HN3 := Lib.hid (HN2.out.gr hg3); have HV := Lib.hid (And.intro hv1 (And.intro hv2 (And.intro (hv3.trans HLe.out) (And.intro hv4 (And.intro hv5 (And.intro hv6 hv7)))))); clear hg3 hv1 hv2 hv3 hv4 hv5 hv6 hv7)
      | fail)
    clear c0 c11 c12 c13 c14
    have c11 := HN3.out.cell 11 (v := .int .i64 x.g.k) rfl
    have c12 := HN3.out.cell 12 (v := .int .i64 x.g.n) rfl
    have c13 := HN3.out.cell 13 (v := .string x.g.s) rfl
    have c14 := HN3.out.cell 14 (v := .slice x.g.p x.g.l.length x.g.c) rfl
    have r0 := (HX.out.gr G3.out).cell 0 (v := s.vv) rfl
    have h3s := G3.out.size
    have nS3 : ∀ b, (PlS w s.D b ∨ wV.heap.size ≤ b) → ¬ s.vv.ownBlock = some b := fun b hb hc => hb.elim (fun hb => HnS.out b hb hc) fun hb => by have := Hovl.out b hc; omega
    obtain ⟨N, HNe⟩ : ∃ N, Hid (N = s.RL.filter fun z => viewP x.g.erase z.er) := ⟨_, Lib.hid rfl⟩
    refine wp_region_relyA 12 [fx (.pointer (some ⟨s.X, 0, none⟩)), fx (.pointer (some ⟨s.X, 0, none⟩)), fx (.pointer (some ⟨s.X, 0, none⟩)), fx s.vv, fx (.pointer (some ⟨V, 0, none⟩)), fx (.pointer (some ⟨s.R, 0, none⟩)), fx (.pointer (some ⟨w.heap.size, 11, none⟩)), fx (.agg #[.int .i64 x.g.k, .int .i64 x.g.n, .string x.g.s, .slice x.g.p x.g.l.length x.g.c]), nlV (fun b => PlS w s.D b ∨ wV.heap.size ≤ b) N, vwV (fun b => PlS w s.D b ∨ wV.heap.size ≤ b) V N, slOne1, slAny]
      (Kp (fun b => s.vv.ownBlock = some b)) (ChainK wV 113 10 110 3 103 11 111 (oneVw wV.heap.size (fun b => PlS w s.D b ∨ wV.heap.size ≤ b) V N) trueV (outVw lo s.vs.length (fun b => PlS w s.D b ∨ wV.heap.size ≤ b) V N s.vv (s.vs.flatMap Vw.cells) wV)) (by kernel_rfl) (by kernel_rfl) (by decide) (by kernel_rfl) (fun _ _ h => Kp.of_gr h) (fun _ _ _ h k => Kp.trans h k) (fun w h => ChainK.start _ _ w rfl h) (by repeat (first | exact StableR.nil | refine StableR.fix ?_ | refine StableR.cons (nlV_stable nS3) ?_ | refine StableR.cons (vwV_stable nS3) ?_ | refine StableR.cons slAny_stable ?_ | refine StableR.cons slOne1_stable ?_)) ?_ ?_
    · refine ⟨stepA_plain (fun _ _ h => Kp.of_gr h) (fun listed a w w' v h hg => ChainK.other oneVw_stable trueV_st outVw_stable rfl listed a w w' v h hg) ?_, stepA_plain (fun _ _ h => Kp.of_gr h) (fun listed a w w' v h hg => ChainK.other oneVw_stable trueV_st outVw_stable rfl listed a w w' v h hg) ?_, stepA_plain (fun _ _ h => Kp.of_gr h) (fun listed a w w' v h hg => ChainK.other oneVw_stable trueV_st outVw_stable rfl listed a w w' v h hg) ?_, ?a3, stepA_plain (fun _ _ h => Kp.of_gr h) (fun listed a w w' v h hg => ChainK.other oneVw_stable trueV_st outVw_stable rfl listed a w w' v h hg) ?_, stepA_plain (fun _ _ h => Kp.of_gr h) (fun listed a w w' v h hg => ChainK.other oneVw_stable trueV_st outVw_stable rfl listed a w w' v h hg) ?_, stepA_plain (fun _ _ h => Kp.of_gr h) (fun listed a w w' v h hg => ChainK.other oneVw_stable trueV_st outVw_stable rfl listed a w w' v h hg) ?_, stepA_plain (fun _ _ h => Kp.of_gr h) (fun listed a w w' v h hg => ChainK.other oneVw_stable trueV_st outVw_stable rfl listed a w w' v h hg) ?_, stepA_plain (fun _ _ h => Kp.of_gr h) (fun listed a w w' v h hg => ChainK.other oneVw_stable trueV_st outVw_stable rfl listed a w w' v h hg) ?b8, stepA_plain (fun _ _ h => Kp.of_gr h) (fun listed a w w' v h hg => ChainK.other oneVw_stable trueV_st outVw_stable rfl listed a w w' v h hg) ?b9, ?a10, ?a11, trivial⟩
      case a3 =>
        intro listed fr ww hj hl hpre hg hdef hold
        have h1 : fr.tmps[1]?.getD undef = .pointer (some ⟨s.R, 0, none⟩) := hold 1 rfl
        have h2 : fr.tmps[2]?.getD undef = .pointer (some ⟨s.X, 0, none⟩) := hold 2 rfl
        have h7 : fr.tmps[7]?.getD undef = .pointer (some ⟨w.heap.size, 0, none⟩) := hold 7 rfl
        have h15 : fr.tmps[15]?.getD undef = .pointer (some ⟨V, 0, none⟩) := hold 15 rfl
        have y0 := Kp.cell hg r0 nX
        have x11 := Kp.cell hg c11 nB
        have x12 := Kp.cell hg c12 nB
        have x13 := Kp.cell hg c13 nB
        have x14 := Kp.cell hg c14 nB
        have Hg := Lib.hid hg
        clear hold r0 c11 c12 c13 c14
        clear hdef
        simp [predsImp, Region.binds, dstAt, fx]
        intros
        rename_i K hK
        go_simp
        exact hK _ _ rfl (Kp.of_gr (Gr.rfl' _)) (hj.put (by decide) (Gr.rfl' _) (ChainJ.second oneVw_stable hj.c hl (by decide) (by decide) (by decide) (by decide) (by decide) (Gr.rfl' _) trivial))
      case a10 =>
        intro listed fr ww hj hl hpre hg hdef hold
        have h1 : fr.tmps[1]?.getD undef = .pointer (some ⟨s.R, 0, none⟩) := hold 1 rfl
        have h2 : fr.tmps[2]?.getD undef = .pointer (some ⟨s.X, 0, none⟩) := hold 2 rfl
        have h7 : fr.tmps[7]?.getD undef = .pointer (some ⟨w.heap.size, 0, none⟩) := hold 7 rfl
        have h15 : fr.tmps[15]?.getD undef = .pointer (some ⟨V, 0, none⟩) := hold 15 rfl
        have y0 := Kp.cell hg r0 nX
        have x11 := Kp.cell hg c11 nB
        have x12 := Kp.cell hg c12 nB
        have x13 := Kp.cell hg c13 nB
        have x14 := Kp.cell hg c14 nB
        have Hg := Lib.hid hg
        clear hold r0 c11 c12 c13 c14
        clear hdef
        simp only [predsImp]
        intro v1 e1 p1 K hK
        obtain ⟨q1, d1, hv1, hs1⟩ := p1
        subst hv1
        go_simp
        exact hK _ _ ⟨_, rfl⟩ (Kp.of_gr (by go_grown)) (hj.put (by decide) (by go_grown) (ChainJ.first trueV_st hj.c hl (by decide) (by decide) (by decide) (by decide) (by decide) (by go_grown) ⟨ww.heap.size, q1, d1, rfl, Hg.out.size, BlkT.new _ _ _, hs1.gr (by go_grown)⟩))
      case a11 =>
        intro listed fr ww hj hl hpre hg hdef hold
        have h1 : fr.tmps[1]?.getD undef = .pointer (some ⟨s.R, 0, none⟩) := hold 1 rfl
        have h2 : fr.tmps[2]?.getD undef = .pointer (some ⟨s.X, 0, none⟩) := hold 2 rfl
        have h7 : fr.tmps[7]?.getD undef = .pointer (some ⟨w.heap.size, 0, none⟩) := hold 7 rfl
        have h15 : fr.tmps[15]?.getD undef = .pointer (some ⟨V, 0, none⟩) := hold 15 rfl
        have y0 := Kp.cell hg r0 nX
        have x11 := Kp.cell hg c11 nB
        have x12 := Kp.cell hg c12 nB
        have x13 := Kp.cell hg c13 nB
        have x14 := Kp.cell hg c14 nB
        have Hg := Lib.hid hg
        clear hold r0 c11 c12 c13 c14
        clear hdef
        simp only [predsImp]
        intro v1 e1 p1 v2 e2 p2 v3 e3 p3 K hK
        clear e3 p3
        replace p1 : v1 = s.vv := p1
        subst p1
        have h3 := hpre ⟨3, Ground.data⟩ (by simp) rfl
        have h10 := hpre ⟨10, Ground.data⟩ (by simp) rfl
        have hx := hj.c.x1 h10 (getD_tf hl)
        rw [e2] at hx
        have gw := hj.g (getD_tf hl)
        obtain ⟨B, q1, d1, rfl, hB, hb1, hs1⟩ := hx
        obtain ⟨v5, w6, hr5, ho5, hg5, hk5⟩ := append_oneVw ww lo s.vv s.vs.length _ B _ _ hb1 rfl rfl (ownsRow_gr HO.out (G3.out.trans gw)) (by have := Hlw.out; have := Hg.out.size; omega) (by omega)
        obtain ⟨qv, cv, rfl, _⟩ := row_form ho5
        exact wp_append_run ww _ _ _ _ rfl _ _ (by simp [Act.eval, e1]) (by simp [Act.eval, e2]) _ w6 hr5 (hK _ _ ⟨_, _, _, rfl⟩ (Kp.of_grown hg5 fun x hx2 => hx2) (ChainK.last hl (ChainJ.last hj.c hl h10 h3 (by decide) (by decide) (by decide) ⟨ww, q1, d1, gw, hs1, Kp.of_grown hg5 fun x hx2 => hx2, ho5, hk5⟩)))
      case b8 =>
        intro fr ww hg hold
        have h1 : fr.tmps[1]?.getD undef = .pointer (some ⟨s.R, 0, none⟩) := hold 1 rfl
        have h2 : fr.tmps[2]?.getD undef = .pointer (some ⟨s.X, 0, none⟩) := hold 2 rfl
        have h7 : fr.tmps[7]?.getD undef = .pointer (some ⟨w.heap.size, 0, none⟩) := hold 7 rfl
        have h15 : fr.tmps[15]?.getD undef = .pointer (some ⟨V, 0, none⟩) := hold 15 rfl
        have y0 := Kp.cell hg r0 nX
        have x11 := Kp.cell hg c11 nB
        have x12 := Kp.cell hg c12 nB
        have x13 := Kp.cell hg c13 nB
        have x14 := Kp.cell hg c14 nB
        have Hg := Lib.hid hg
        clear hold r0 c11 c12 c13 c14
        simp [predsImp, Region.binds, dstAt, fx]
        intros
        rename_i K hK
        go_simp
        refine (Hrv.out _ ((Kp.of_gr G3.out).trans Hg.out)).mono ?_
        rintro e9 w9 ⟨p9, c9, M9, rfl, hM9, hs9, hg9⟩
        obtain rfl : M9 = N := hM9.trans HNe.out.symm
        exact hK _ _ ⟨p9, c9, rfl, hs9.mono fun b hb _ => hb.imp id fun hb => Nat.le_trans Hg.out.size hb⟩ hg9
      case b9 =>
        intro fr ww hg hold
        have h1 : fr.tmps[1]?.getD undef = .pointer (some ⟨s.R, 0, none⟩) := hold 1 rfl
        have h2 : fr.tmps[2]?.getD undef = .pointer (some ⟨s.X, 0, none⟩) := hold 2 rfl
        have h7 : fr.tmps[7]?.getD undef = .pointer (some ⟨w.heap.size, 0, none⟩) := hold 7 rfl
        have h15 : fr.tmps[15]?.getD undef = .pointer (some ⟨V, 0, none⟩) := hold 15 rfl
        have y0 := Kp.cell hg r0 nX
        have x11 := Kp.cell hg c11 nB
        have x12 := Kp.cell hg c12 nB
        have x13 := Kp.cell hg c13 nB
        have x14 := Kp.cell hg c14 nB
        have Hg := Lib.hid hg
        clear hold r0 c11 c12 c13 c14
        simp only [predsImp]
        intro v1 e1 p1 v2 e2 p2 K hK
        replace p1 : v1 = .pointer (some ⟨V, 0, none⟩) := p1
        subst p1
        obtain ⟨q1, d1, hv2, hs1⟩ := p2
        subst hv2
        go_simp
        exact hK _ _ ⟨q1, d1, rfl, hs1⟩ (Gr.rfl' _)
      all_goals
        intro fr ww hg hold
        have h1 : fr.tmps[1]?.getD undef = .pointer (some ⟨s.R, 0, none⟩) := hold 1 rfl
        have h2 : fr.tmps[2]?.getD undef = .pointer (some ⟨s.X, 0, none⟩) := hold 2 rfl
        have h7 : fr.tmps[7]?.getD undef = .pointer (some ⟨w.heap.size, 0, none⟩) := hold 7 rfl
        have h15 : fr.tmps[15]?.getD undef = .pointer (some ⟨V, 0, none⟩) := hold 15 rfl
        have y0 := Kp.cell hg r0 nX
        have x11 := Kp.cell hg c11 nB
        have x12 := Kp.cell hg c12 nB
        have x13 := Kp.cell hg c13 nB
        have x14 := Kp.cell hg c14 nB
        have Hg := Lib.hid hg
        clear hold r0 c11 c12 c13 c14
        simp [predsImp, Region.binds, dstAt, fx]
        intros
        rename_i K hK
        go_simp
      all_goals exact hK _ _ rfl (Gr.rfl' _)
    · intro w5 hg
      rintro _ rfl _ rfl _ rfl _ rfl _ rfl _ rfl _ rfl _ rfl _ ⟨q8, d8, rfl, -⟩ _ ⟨q9, d9, rfl, -⟩ _ ⟨B9, rfl⟩ _ ⟨pz, nz, cz, rfl⟩ hcj
      simp only [Act.put, List.setIfInBounds_toArray, List.set_cons_succ, List.set_cons_zero, List.drop_succ_cons, List.drop_zero] at hcj ⊢
      obtain ⟨wa, q, d, ga, hsN, hka, ho, hoc⟩ : outVw lo s.vs.length (fun b => PlS w s.D b ∨ wV.heap.size ≤ b) V N s.vv (s.vs.flatMap Vw.cells) wV (.slice pz nz cz) w5 := hcj.c.end_ (by show 11 < 12; omega)
      have HZ := Lib.hid (hR.out ⟨V, p2, c2, M, G', q, d, N⟩ wV wa w5 _ G3.out (Nat.le_trans hs2 HV.out.2.2.2.2.2.2) HV.out.1 HV.out.2.1 HV.out.2.2.1 HV.out.2.2.2.1 HV.out.2.2.2.2.1 (HV.out.2.2.2.2.2.1.mono fun b hb => ⟨Nat.le_trans hs2 hb.1, hb.2⟩) ga hsN HNe.out hka ho hoc)
      have hXb := (HX.out.gr G3.out).kp hg nX
      have rr := hXb.cell 0 (v := s.vv) rfl
      have fr := hXb.open_ 0
      clear hcj r0 hsN hka ho hoc ga hR hXb
      go_upto_region 21 with fail
      generalize w5.setCell ⟨s.X, 0, none⟩ (.slice pz nz cz) = wZ at *
      go_wp2_with fail
      exact HZ.out
end Go.Proofs.YtjdoflfdlhpbmaaDoor

namespace Go.Proofs.YtjdoflfdlhpbmaaDoor
open Go.RowKit Go.Maps Go.Lib

/-- What is asked of a step. -/
structure StpOk (lo : Nat) (w : World) (x : Stp) : Prop where
  h : x.h.In w
  ho : x.h.On (· < lo)
  b : x.b.In w
  bo : x.b.On (· < lo)
  n : In64 x.n
  g : x.g.In w
  go : x.g.On (· < lo)
theorem StpOk.gr {lo : Nat} {w w' : World} {x : Stp} (h : StpOk lo w x) (hg : Gr w w') : StpOk lo w' x := ⟨Tm.In_below hg h.h, h.ho, Tm.In_below hg h.b, h.bo, h.n, Tm.In_below hg h.g, h.go⟩
theorem RetPl.gr {lo n : Nat} {s : PlaySt} {w w1 w2 : World} {e : Ending} (hg : Gr w w1) (h : RetPl lo n s w1 e w2) : RetPl lo n s w e w2 := by
  obtain ⟨h1, s', h2, h3, h4, h5, h6⟩ := h
  exact ⟨h1, s', h2, h3, h4, h5, (Kp.of_gr hg).trans h6⟩
theorem seen_calls (lo n : Nat) (w : World) (s : PlaySt) (x : Stp) (h : PlOk lo n w s) (hx : StpOk lo w x) (hk : x.k = 4 ∨ x.k = 5) (hn : n ≤ 4194304) :
    Calls Tryd.prog 28 #[.pointer (some ⟨s.B, 0, none⟩), .pointer (some ⟨s.R, 0, none⟩), .pointer (some ⟨s.X, 0, none⟩), x.val] w (RetPl lo n s w) := by
  cases hE : (x.g.erase.formed && x.g.erase.callable) with
  | false => exact seen_bad lo n w s x h hx.g hk hE
  | true =>
    rw [Bool.and_eq_true] at hE
    rcases hk with hk | hk
    · exact seen_look lo n w s x h hx.g hk hn hE.1 hE.2
    · exact seen_view lo n w s x h hx.g hx.go hk hn hE.1 hE.2

set_option maxHeartbeats 8000000 in
set_option maxRecDepth 100000 in
theorem based_seen (lo n : Nat) (w : World) (s : PlaySt) (x : Stp) (h : PlOk lo n w s) (hx : StpOk lo w x) (hk : x.k = 4 ∨ x.k = 5) (hn : n ≤ 4194304) :
    Calls Tryd.prog 7 #[.pointer (some ⟨s.B, 0, none⟩), .pointer (some ⟨s.R, 0, none⟩), .pointer (some ⟨s.X, 0, none⟩), x.val] w (RetPl lo n s w) := by
  have Hseen := Lib.hid (fun W (g : Gr w W) => show Calls Tryd.prog 28 #[.pointer (some ⟨s.B, 0, none⟩), .pointer (some ⟨s.R, 0, none⟩), .pointer (some ⟨s.X, 0, none⟩), .agg #[.int .i64 x.k, .int .i64 x.h.k, .int .i64 x.h.n, .string x.h.s, .slice x.h.p x.h.l.length x.h.c, .int .i64 x.b.k, .int .i64 x.b.n, .string x.b.s, .slice x.b.p x.b.l.length x.b.c, .bool x.f, .int .i64 x.n, .int .i64 x.g.k, .int .i64 x.g.n, .string x.g.s, .slice x.g.p x.g.l.length x.g.c]] W _ from seen_calls lo n W s x (h.gr g) (hx.gr g) hk hn)
  have hR : Hid (∀ W e w', Gr w W → RetPl lo n s W e w' → RetPl lo n s w e w' ∧ e = .returned (.bool true)) := fun W e w' h1 h2 => ⟨h2.gr h1, h2.1⟩
  generalize hQ : RetPl lo n s w = Q at hR ⊢
  have Hk := Lib.hid hk
  clear h hx hk hQ

  rw [Stp.val]
  go_enter Tryd.func7, Tryd.ntmps7
  try simp only [List.append_eq, List.cons_append, List.nil_append]
  go_upto_region 1 with fail
  have hN := BlkT.new w 38 #[.int .i64 x.k, .int .i64 x.h.k, .int .i64 x.h.n, .string x.h.s, .slice x.h.p x.h.l.length x.h.c, .int .i64 x.b.k, .int .i64 x.b.n, .string x.b.s, .slice x.b.p x.b.l.length x.b.c, .bool x.f, .int .i64 x.n, .int .i64 x.g.k, .int .i64 x.g.n, .string x.g.s, .slice x.g.p x.g.l.length x.g.c]
  have gA : Gr w (w.alloc (.cells #[.int .i64 x.k, .int .i64 x.h.k, .int .i64 x.h.n, .string x.h.s, .slice x.h.p x.h.l.length x.h.c, .int .i64 x.b.k, .int .i64 x.b.n, .string x.b.s, .slice x.b.p x.b.l.length x.b.c, .bool x.f, .int .i64 x.n, .int .i64 x.g.k, .int .i64 x.g.n, .string x.g.s, .slice x.g.p x.g.l.length x.g.c] 38)) := by go_grown
  generalize w.alloc (.cells #[.int .i64 x.k, .int .i64 x.h.k, .int .i64 x.h.n, .string x.h.s, .slice x.h.p x.h.l.length x.h.c, .int .i64 x.b.k, .int .i64 x.b.n, .string x.b.s, .slice x.b.p x.b.l.length x.b.c, .bool x.f, .int .i64 x.n, .int .i64 x.g.k, .int .i64 x.g.n, .string x.g.s, .slice x.g.p x.g.l.length x.g.c] 38) = wA at *
  have HN := Lib.hid hN
  clear hN
  have c0 := HN.out.cell 0 (v := .int .i64 x.k) rfl
  have c1 := HN.out.cell 1 (v := .int .i64 x.h.k) rfl
  have c2 := HN.out.cell 2 (v := .int .i64 x.h.n) rfl
  have c3 := HN.out.cell 3 (v := .string x.h.s) rfl
  have c4 := HN.out.cell 4 (v := .slice x.h.p x.h.l.length x.h.c) rfl
  have c5 := HN.out.cell 5 (v := .int .i64 x.b.k) rfl
  have c6 := HN.out.cell 6 (v := .int .i64 x.b.n) rfl
  have c7 := HN.out.cell 7 (v := .string x.b.s) rfl
  have c8 := HN.out.cell 8 (v := .slice x.b.p x.b.l.length x.b.c) rfl
  have c9 := HN.out.cell 9 (v := .bool x.f) rfl
  have c10 := HN.out.cell 10 (v := .int .i64 x.n) rfl
  have c11 := HN.out.cell 11 (v := .int .i64 x.g.k) rfl
  have c12 := HN.out.cell 12 (v := .int .i64 x.g.n) rfl
  have c13 := HN.out.cell 13 (v := .string x.g.s) rfl
  have c14 := HN.out.cell 14 (v := .slice x.g.p x.g.l.length x.g.c) rfl
  rcases Hk.out with hk | hk
  all_goals
    rw [hk] at c0
    go_wp2_with (first
      | (go_at_call 28; rewrite [← hk]; refine (Hseen.out _ gA).mono ?_; rintro e w3 hr3; obtain ⟨hq, rfl⟩ := hR.out _ _ _ gA hr3; have HQ := Lib.hid hq; clear hr3 hq)
      | fail)
    exact HQ.out

set_option maxHeartbeats 8000000 in
set_option maxRecDepth 100000 in
theorem based_none (lo n : Nat) (w : World) (s : PlaySt) (x : Stp) (h : PlOk lo n w s) (hk : (x.k == 0) = false ∧ (x.k == 1) = false ∧ (x.k == 2) = false ∧ (x.k == 3) = false ∧ (x.k == 4) = false ∧ (x.k == 5) = false ∧ (x.k == 6) = false) :
    Calls Tryd.prog 7 #[.pointer (some ⟨s.B, 0, none⟩), .pointer (some ⟨s.R, 0, none⟩), .pointer (some ⟨s.X, 0, none⟩), x.val] w (RetPl lo n s w) := by
  have hR : Hid (∀ w', Gr w w' → RetPl lo n s w (.returned (.bool true)) w') := fun w' h1 => h.same h1
  generalize RetPl lo n s w = Q at hR ⊢
  obtain ⟨k0, k1, k2, k3, k4, k5, k6⟩ := hk
  clear h

  rw [Stp.val]
  go_enter Tryd.func7, Tryd.ntmps7
  try simp only [List.append_eq, List.cons_append, List.nil_append]
  go_upto_region 1 with fail
  have hN := BlkT.new w 38 #[.int .i64 x.k, .int .i64 x.h.k, .int .i64 x.h.n, .string x.h.s, .slice x.h.p x.h.l.length x.h.c, .int .i64 x.b.k, .int .i64 x.b.n, .string x.b.s, .slice x.b.p x.b.l.length x.b.c, .bool x.f, .int .i64 x.n, .int .i64 x.g.k, .int .i64 x.g.n, .string x.g.s, .slice x.g.p x.g.l.length x.g.c]
  have gA : Gr w (w.alloc (.cells #[.int .i64 x.k, .int .i64 x.h.k, .int .i64 x.h.n, .string x.h.s, .slice x.h.p x.h.l.length x.h.c, .int .i64 x.b.k, .int .i64 x.b.n, .string x.b.s, .slice x.b.p x.b.l.length x.b.c, .bool x.f, .int .i64 x.n, .int .i64 x.g.k, .int .i64 x.g.n, .string x.g.s, .slice x.g.p x.g.l.length x.g.c] 38)) := by go_grown
  generalize w.alloc (.cells #[.int .i64 x.k, .int .i64 x.h.k, .int .i64 x.h.n, .string x.h.s, .slice x.h.p x.h.l.length x.h.c, .int .i64 x.b.k, .int .i64 x.b.n, .string x.b.s, .slice x.b.p x.b.l.length x.b.c, .bool x.f, .int .i64 x.n, .int .i64 x.g.k, .int .i64 x.g.n, .string x.g.s, .slice x.g.p x.g.l.length x.g.c] 38) = wA at *
  have HN := Lib.hid hN
  clear hN
  have c0 := HN.out.cell 0 (v := .int .i64 x.k) rfl
  go_wp2_with fail
  exact hR.out _ gA
end Go.Proofs.YtjdoflfdlhpbmaaDoor

namespace Go.Proofs.YtjdoflfdlhpbmaaDoor
open Go.ChangeShapes Go.WideShapes Go.ChangeAt Go.RowKit Go.Deep

def Stp.cells (x : Stp) : List Value := .int .i64 x.k :: (x.h.cells ++ (x.b.cells ++ (.bool x.f :: .int .i64 x.n :: x.g.cells)))
def Stp.In (w : World) (x : Stp) : Prop := x.h.In w ∧ x.b.In w ∧ x.g.In w ∧ In64 x.k ∧ In64 x.n
/-- A slice of steps. -/
structure Stps where
  p : Option Addr
  c : Nat
  l : List Stp
def Stps.val (x : Stps) : Value := .slice x.p x.l.length x.c
def Stps.In (w : World) (x : Stps) : Prop := SlOf Stp.cells (Stp.In w) 15 192 w x.p x.c x.l

theorem cellsBStep : Tryd.prog.cellsOf 38 = 15 := by kernel_rfl
theorem bytesBStep : Tryd.prog.bytesOf 38 = 192 := by kernel_rfl
theorem cellsBool : Tryd.prog.cellsOf 4 = 1 := by kernel_rfl
theorem list5b {α : Type} {l : List α} (h : l.length = 5) : ∃ a b c d e, l = [a, b, c, d, e] := by
  match l, h with
  | [a, b, c, d, e], _ => exact ⟨a, b, c, d, e, rfl⟩
theorem list15 {α : Type} {l : List α} (h : l.length = 15) : ∃ a0 a1 a2 a3 a4 a5 a6 a7 a8 a9 a10 a11 a12 a13 a14, l = [a0, a1, a2, a3, a4, a5, a6, a7, a8, a9, a10, a11, a12, a13, a14] := by
  match l, h with
  | [a0, a1, a2, a3, a4, a5, a6, a7, a8, a9, a10, a11, a12, a13, a14], _ => exact ⟨_, _, _, _, _, _, _, _, _, _, _, _, _, _, _, rfl⟩

section
variable {H : Type} {enc : TypeId × Value → H} {W : World}

set_option maxRecDepth 100000 in
theorem open_clause1 (fuel : Nat) (cs : List Value) (x : DataW H × List MemPlace) (h : DataW.trod enc Tryd.prog W 0 (fun _ => true) true fuel 36 cs = some x)
    (hw : ∀ n ∈ x.1.weights Tryd.prog 36, n ≤ reachBytes) : ∃ a b : Tm, cs = a.cells ++ b.cells ∧ a.In W ∧ b.In W := by
  obtain ⟨xs, m, rfl, rfl, hl, hlen, hf⟩ := DataW.trod_struct Tryd.underlying36 h
  rw [cellsClause] at hl
  obtain ⟨y0, y1, rfl⟩ := list2 hlen
  obtain ⟨v0, v1, v2, v3, v4, v5, v6, v7, rfl⟩ := list8 hl
  have g0 := hf 0 _ rfl
  have g1 := hf 1 _ rfl
  simp [cellsTermC] at g0 g1
  simp only [List.map_cons, List.map_nil, DataW.weights, Tryd.underlying36, DataW.weightsEach, List.append_nil, List.mem_append] at hw
  obtain ⟨t0, e0, i0⟩ := open_term m _ _ g0 fun n hn => hw n (.inl hn)
  obtain ⟨t1, e1, i1⟩ := open_term m _ _ g1 fun n hn => hw n (.inr hn)
  refine ⟨t0, t1, ?_, i0, i1⟩
  rw [← e0, ← e1]
  rfl

set_option maxRecDepth 100000 in
theorem open_bstep (fuel : Nat) (cs : List Value) (x : DataW H × List MemPlace) (h : DataW.trod enc Tryd.prog W 0 (fun _ => true) true fuel 38 cs = some x)
    (hw : ∀ n ∈ x.1.weights Tryd.prog 38, n ≤ reachBytes) : ∃ y : Stp, cs = y.cells ∧ y.In W := by
  obtain ⟨xs, m, rfl, rfl, hl, hlen, hf⟩ := DataW.trod_struct Tryd.underlying38 h
  rw [cellsBStep] at hl
  obtain ⟨y0, y1, y2, y3, y4, rfl⟩ := list5b hlen
  obtain ⟨v0, v1, v2, v3, v4, v5, v6, v7, v8, v9, v10, v11, v12, v13, v14, rfl⟩ := list15 hl
  have g0 := hf 0 _ rfl
  have g1 := hf 1 _ rfl
  have g2 := hf 2 _ rfl
  have g3 := hf 3 _ rfl
  have g4 := hf 4 _ rfl
  simp [cellsTermC, cellsI, cellsClause, cellsBool] at g0 g1 g2 g3 g4
  obtain ⟨k, hk, rfl, wk⟩ := DataW.trod_int Tryd.underlying3 g0
  simp only [List.cons.injEq, and_true] at hk
  subst hk
  obtain ⟨n, hn, rfl, wn⟩ := DataW.trod_int Tryd.underlying3 g3
  simp only [List.cons.injEq, and_true] at hn
  subst hn
  obtain ⟨f, hff, rfl⟩ := DataW.trod_bool Tryd.underlying4 g2
  simp only [List.cons.injEq, and_true] at hff
  subst hff
  simp only [List.map_cons, List.map_nil, DataW.weights, Tryd.underlying38, DataW.weightsEach, List.append_nil, List.nil_append, List.mem_append] at hw
  obtain ⟨t0, t1, e0, i0, i1⟩ := open_clause1 m _ _ g1 fun n hn => hw n (.inl hn)
  obtain ⟨t2, e2, i2⟩ := open_term m _ _ g4 fun n hn => hw n (.inr hn)
  refine ⟨⟨k, t0, t1, f, n, t2⟩, ?_, i0, i1, i2, bounds64 wk, bounds64 wn⟩
  rw [Stp.cells, ← e2, ← List.append_assoc, ← e0]
  rfl

set_option maxRecDepth 100000 in
theorem open_bstepsU_arg {r : Reach} {b0 : Nat} {v : Value} {d : DataW H} {p : List MemPlace} (hv : Value.okWide Tryd.prog W r b0 22 v)
    (h : DataW.Trod enc Tryd.prog W 0 (fun _ => true) true 22 v d p) (hw : ∀ n ∈ d.weights Tryd.prog 22, n ≤ reachBytes) : ∃ x : Stps, v = x.val ∧ x.In W ∧ x.l.length ≤ Rows.uptoBulk d := by
  obtain ⟨a0, len0, cap0, rfl⟩ := okWide_slice Tryd.underlying22 hv
  obtain ⟨fuel, hf⟩ := h
  have hbk := bulk_slice Tryd.underlying22 hf
  obtain ⟨p, c, l, h1, h2⟩ := open_sl Stp.cells (Stp.In W) Tryd.underlying22 cellsBStep bytesBStep (by decide) open_bstep hf hw
  simp [Value.cells] at h1
  obtain ⟨rfl, rfl, rfl⟩ := h1
  exact ⟨⟨_, _, l⟩, rfl, h2, hbk⟩
end
end Go.Proofs.YtjdoflfdlhpbmaaDoor
