/-
  (*base.Base).Get in general.
  (*base.Base).Look in general.
  The document's base in memory: a list of all clauses that ever were.
-/
import Derived.Test.YtjdoflfdlhpbmaaDoorBP16
namespace Go.Proofs.YtjdoflfdlhpbmaaDoor
open Go.RowKit Go.Maps Go.Lib

/-- What Get hands back. -/
def RetGetP (st : BSt) (id : Int) (w : World) (e : Ending) (w' : World) : Prop := Gr w w' ∧ ∃ h b : Tm, h.In w' ∧ b.In w' ∧
  ((st.wh id = none ∧ e = .returned (.tuple #[clVal h b, .int .i64 8]) ∧ h = zeroTm ∧ b = zeroTm) ∨
   ∃ k0 L x, st.wh id = some k0 ∧ st.pr k0 = some L ∧ x ∈ L ∧ x.i = id ∧ e = .returned (.tuple #[clVal h b, .int .i64 0]) ∧ h.erase = x.h ∧ b.erase = x.b)
/-- The first with such a number. -/
theorem first_id (id : Int) : ∀ L : List Hd, (∃ x ∈ L, x.i = id) → ∃ (k : Nat) (hk : k < L.length), L[k].i = id ∧ ∀ (j : Nat) (hj : j < L.length), j < k → L[j].i ≠ id
  | [], ⟨_, h, _⟩ => by cases h
  | y :: ys, ⟨x, hx, he⟩ => by
    by_cases hy : y.i = id
    · exact ⟨0, by simp, hy, fun j _ h => by omega⟩
    · rcases List.mem_cons.1 hx with rfl | hx
      · exact absurd he hy
      · obtain ⟨k, hk, h1, h2⟩ := first_id id ys ⟨x, hx, he⟩
        refine ⟨k + 1, by simpa using hk, by simpa using h1, fun j hj hjk => ?_⟩
        cases j with
        | zero => exact hy
        | succ j => simpa using h2 j (by simpa using hj) (by omega)

set_option maxHeartbeats 8000000 in
set_option maxRecDepth 100000 in
theorem getP_none (S : Nat → Prop) (B M1 M2 : Nat) (va : Value) (st : BSt) (id : Int) (w : World) (hB : BaseG S w B M1 M2 va st) (hid : In64 id) (hn : st.wh id = none) :
    Calls Tryd.prog 24 #[.pointer (some ⟨B, 0, none⟩), .int .i64 id] w (RetGetP st id w) := by
  have hR : Hid (∀ w', Gr w w' → RetGetP st id w (.returned (.tuple #[clVal zeroTm zeroTm, .int .i64 8])) w') := fun w' h => ⟨h, zeroTm, zeroTm, zeroTm_in _, zeroTm_in _, .inl ⟨hn, rfl, rfl, rfl⟩⟩
  generalize RetGetP st id w = Q at hR ⊢
  have Hkey1 := Lib.hid (keyOf_int_mk Tryd.underlying3 (wf_64 hid))
  have HBl := Lib.hid hB.blk
  have HM2 := Lib.hid hB.m2
  have HF2 := Lib.hid hn
  clear hB hn
  go_enter Tryd.func24, Tryd.ntmps24
  try simp only [List.append_eq, List.cons_append, List.nil_append]
  go_upto_region 1 with fail
  have hI := BlkT.new w 3 #[.int .i64 id]
  have g1 : Gr w (w.alloc (.cells #[.int .i64 id] 3)) := by go_grown
  have hN : Blk8 ((w.alloc (.cells #[.int .i64 id] 3)).alloc (.cells #[.int .i64 0, .int .i64 0, .string ⟨#[]⟩, .slice none 0 0, .int .i64 0, .int .i64 0, .string ⟨#[]⟩, .slice none 0 0] 36)) (w.alloc (.cells #[.int .i64 id] 3)).heap.size (.int .i64 0) (.int .i64 0) (.string ⟨#[]⟩) (.slice none 0 0) (.int .i64 0) (.int .i64 0) (.string ⟨#[]⟩) (.slice none 0 0) := heap_alloc_new _ _
  rw [World.size_alloc] at hN
  have g2 : Gr (w.alloc (.cells #[.int .i64 id] 3)) ((w.alloc (.cells #[.int .i64 id] 3)).alloc (.cells #[.int .i64 0, .int .i64 0, .string ⟨#[]⟩, .slice none 0 0, .int .i64 0, .int .i64 0, .string ⟨#[]⟩, .slice none 0 0] 36)) := by go_grown
  have hI2 := hI.gr g2
  have gA := g1.trans g2
  generalize (w.alloc (.cells #[.int .i64 id] 3)).alloc (.cells #[.int .i64 0, .int .i64 0, .string ⟨#[]⟩, .slice none 0 0, .int .i64 0, .int .i64 0, .string ⟨#[]⟩, .slice none 0 0] 36) = wA at *
  clear hI g1 g2
  have HI := Lib.hid hI2
  have HR := Lib.hid hN
  have hszA := HR.out.lt
  clear hI2 hN
  have b3 := (HBl.out.gr gA).cell 3 (v := .map (some M2)) rfl
  have i0 := HI.out.cell 0 (v := .int .i64 id) rfl
  have hlt0 : w.heap.size < wA.heap.size := by omega
  have hltB : B < wA.heap.size := by have := HBl.out.lt; have := gA.size; omega
  have hlk : ∀ W, Gr wA W → (Instr.lookup 59 (.map (some M2)) (.int .i64 id) true).run Tryd.prog W = .ok (.tuple #[.agg #[.string ⟨#[]⟩, .int .i64 0], .bool false]) W := by
    intro W hW
    have h := (GMap.run (HM2.out.gr (gA.trans hW)) (int_keyed Tryd.underlying3) Tryd.underlying59 (zero_bpred W) (x := id) Hkey1.out).2
    simp only [HF2.out, Option.map_none] at h
    exact h
  have hlA := hlk wA.drew (by go_grown)
  have hlB := hlk (wA.alloc (.cells #[.string ⟨#[]⟩, .int .i64 0] 110)).drew (by go_grown)
  replace hlk := Lib.hid hlk
  go_region
  all_goals
    have gB : Gr wA (wA.alloc (.cells #[.string ⟨#[]⟩, .int .i64 0] 110)).drew := by go_grown
    generalize (wA.alloc (.cells #[.string ⟨#[]⟩, .int .i64 0] 110)).drew = wB at *
    clear hlA hlB hlk b3 i0
    generalize wA.heap.size = p at *
    have gAB := gA.trans gB
    replace HR := Lib.hid (HR.out.gr gB)
    have hsB := gB.size
    obtain ⟨z0, z1, z2, z3, z4, z5, z6, z7⟩ := HR.out.cells
    obtain ⟨f0, f1, f2, f3, f4, f5, f6, f7⟩ := HR.out.open_
    have kk := Kp.set8 (C := fun x => x = w.heap.size + 1) (w := wB) (b := w.heap.size + 1) rfl (.int .i64 0) (.int .i64 0) (.string ⟨#[]⟩) (.slice none 0 0) (.int .i64 0) (.int .i64 0) (.string ⟨#[]⟩) (.slice none 0 0)
    have hz := Blk8.set8 HR.out (.int .i64 0) (.int .i64 0) (.string ⟨#[]⟩) (.slice none 0 0) (.int .i64 0) (.int .i64 0) (.string ⟨#[]⟩) (.slice none 0 0)
    go_upto_region 7 with fail
    generalize ((((((((wB.setCell ⟨w.heap.size + 1, 0, none⟩ (.int .i64 0)).setCell ⟨w.heap.size + 1, 1, none⟩ (.int .i64 0)).setCell ⟨w.heap.size + 1, 2, none⟩ (.string ⟨#[]⟩)).setCell ⟨w.heap.size + 1, 3, none⟩ (.slice none 0 0)).setCell ⟨w.heap.size + 1, 4, none⟩ (.int .i64 0)).setCell ⟨w.heap.size + 1, 5, none⟩ (.int .i64 0)).setCell ⟨w.heap.size + 1, 6, none⟩ (.string ⟨#[]⟩)).setCell ⟨w.heap.size + 1, 7, none⟩ (.slice none 0 0)) = wZ at *
    clear z0 z1 z2 z3 z4 z5 z6 z7 f0 f1 f2 f3 f4 f5 f6 f7
    obtain ⟨z0, z1, z2, z3, z4, z5, z6, z7⟩ := hz.cells
    refine bodyPost_ret (v := .tuple #[clVal zeroTm zeroTm, .int .i64 8]) (by simp [results, Tryd.results24, go_sem, clVal, zeroTm, Tm.k, Tm.n, Tm.s, Tm.p, Tm.c, Tm.l, z0, z1, z2, z3, z4, z5, z6, z7]) rfl ?_
    exact hR.out _ (Below.trans gAB (kk.below (fun x hx => by have hx : x = w.heap.size + 1 := hx; omega) gAB.size))

set_option maxHeartbeats 8000000 in
set_option maxRecDepth 100000 in
theorem getP_some (S : Nat → Prop) (B M1 M2 : Nat) (va : Value) (st : BSt) (id : Int) (w : World) (hB : BaseG S w B M1 M2 va st) (hid : In64 id) (s : ByteArray) (n : Int) (hw : st.wh id = some (s, n)) (LT : List HdT) (hp : st.pr (s, n) = some LT) (hx : ∃ x ∈ LT, x.i = id) :
    Calls Tryd.prog 24 #[.pointer (some ⟨B, 0, none⟩), .int .i64 id] w (RetGetP st id w) := by
  obtain ⟨f, hm1, hrow⟩ := hB.m1
  have hrow0 := hrow (s, n)
  rw [hp] at hrow0
  obtain ⟨q, c, L, hf1, hL, hLe⟩ := hrow0
  obtain ⟨k, hk, hk1, hk2⟩ := first_id id L (by
    obtain ⟨x, h1, h2⟩ := hx
    rw [← hLe] at h1
    obtain ⟨y, hy, rfl⟩ := List.mem_map.1 h1
    exact ⟨y, hy, h2⟩)
  have hR : Hid (∀ (h b : Tm) (w' : World), h.In w' → b.In w' → h.erase = L[k].h.erase → b.erase = L[k].b.erase → Gr w w' → RetGetP st id w (.returned (.tuple #[clVal h b, .int .i64 0])) w') := fun h b w' h1 h2 h3 h4 hg =>
    ⟨hg, h, b, h1, h2, .inr ⟨(s, n), LT, L[k].er, hw, hp, by rw [← hLe]; exact List.mem_map.2 ⟨_, List.getElem_mem hk, rfl⟩, hk1, rfl, h3, h4⟩⟩
  generalize RetGetP st id w = Q at hR ⊢
  have hw8 := hB.whk id (s, n) hw
  have Hkey := Lib.hid (keyOf_bpred (s := s) (n := n) (by have := hw8.1; simp only [maxLen]; simp only at this; omega) (wf_64 ⟨by have := hw8.2.1; simp only at this; omega, by have := hw8.2.2; simp only at this; omega⟩))
  have Hkey1 := Lib.hid (keyOf_int_mk Tryd.underlying3 (wf_64 hid))
  have HBl := Lib.hid hB.blk
  have HM1 := Lib.hid hm1
  have HM2 := Lib.hid hB.m2
  have HF1 := Lib.hid hf1
  have HF2 := Lib.hid hw
  have HLl := Lib.hid hL
  have hll := hL.len
  have hlm := hL.cap
  have Hix := Lib.hid (fun W (hg : Gr w W) p (h9 : W.cell? ⟨p, 0, none⟩ = some (.int .i64 id)) => indexP_calls S q c L p id W (hL.gr hg) h9 k hk hk1 hk2)
  obtain ⟨b9, o9, rfl⟩ : ∃ b o, q = some ⟨b, o, none⟩ := by
    rcases hL.row with h | ⟨b, o, h, _⟩
    · rw [h] at hk; simp at hk
    · exact ⟨b, o, h⟩
  have Hel := Lib.hid (fun W (hg : Gr w W) => HSl.elem (hL.gr hg) k hk)
  have Hels := Lib.hid (hL.els _ (List.getElem_mem hk))
  clear hB hrow hm1 hf1 hw hL hk1 hk2 hLe hx hp hw8
  generalize L[k] = y at *
  go_enter Tryd.func24, Tryd.ntmps24
  try simp only [List.append_eq, List.cons_append, List.nil_append]
  go_upto_region 1 with fail
  have hI := BlkT.new w 3 #[.int .i64 id]
  have g1 : Gr w (w.alloc (.cells #[.int .i64 id] 3)) := by go_grown
  have hN : Blk8 ((w.alloc (.cells #[.int .i64 id] 3)).alloc (.cells #[.int .i64 0, .int .i64 0, .string ⟨#[]⟩, .slice none 0 0, .int .i64 0, .int .i64 0, .string ⟨#[]⟩, .slice none 0 0] 36)) (w.alloc (.cells #[.int .i64 id] 3)).heap.size (.int .i64 0) (.int .i64 0) (.string ⟨#[]⟩) (.slice none 0 0) (.int .i64 0) (.int .i64 0) (.string ⟨#[]⟩) (.slice none 0 0) := heap_alloc_new _ _
  rw [World.size_alloc] at hN
  have g2 : Gr (w.alloc (.cells #[.int .i64 id] 3)) ((w.alloc (.cells #[.int .i64 id] 3)).alloc (.cells #[.int .i64 0, .int .i64 0, .string ⟨#[]⟩, .slice none 0 0, .int .i64 0, .int .i64 0, .string ⟨#[]⟩, .slice none 0 0] 36)) := by go_grown
  have hI2 := hI.gr g2
  have gA := g1.trans g2
  generalize (w.alloc (.cells #[.int .i64 id] 3)).alloc (.cells #[.int .i64 0, .int .i64 0, .string ⟨#[]⟩, .slice none 0 0, .int .i64 0, .int .i64 0, .string ⟨#[]⟩, .slice none 0 0] 36) = wA at *
  clear hI g1 g2
  have HI := Lib.hid hI2
  have HR := Lib.hid hN
  have hszA := HR.out.lt
  clear hI2 hN
  have b3 := (HBl.out.gr gA).cell 3 (v := .map (some M2)) rfl
  have i0 := HI.out.cell 0 (v := .int .i64 id) rfl
  have hlt0 : w.heap.size < wA.heap.size := by omega
  have hltB : B < wA.heap.size := by have := HBl.out.lt; have := gA.size; omega
  have hlk : ∀ W, Gr wA W → (Instr.lookup 59 (.map (some M2)) (.int .i64 id) true).run Tryd.prog W = .ok (.tuple #[.agg #[.string s, .int .i64 n], .bool true]) W := by
    intro W hW
    have h := (GMap.run (HM2.out.gr (gA.trans hW)) (int_keyed Tryd.underlying3) Tryd.underlying59 (zero_bpred W) (x := id) Hkey1.out).2
    simp only [HF2.out, Option.map_some] at h
    exact h
  have hlA := hlk wA.drew (by go_grown)
  have hlB := hlk (wA.alloc (.cells #[.string ⟨#[]⟩, .int .i64 0] 110)).drew (by go_grown)
  replace hlk := Lib.hid hlk
  go_region
  all_goals
    have hP := BlkT.new wA 110 #[.string s, .int .i64 n]
    have gB : Gr wA (wA.alloc (.cells #[.string s, .int .i64 n] 110)).drew := by go_grown
    have hP2 := hP.gr (by go_grown : Gr _ (wA.alloc (.cells #[.string s, .int .i64 n] 110)).drew)
    generalize (wA.alloc (.cells #[.string s, .int .i64 n] 110)).drew = wB at *
    clear hP hlA hlB hlk b3 i0
    have HP := Lib.hid hP2
    clear hP2
    generalize wA.heap.size = p at *
    have gAB := gA.trans gB
    replace HI := Lib.hid (HI.out.gr gB)
    replace HR := Lib.hid (HR.out.gr gB)
    have b2 := (HBl.out.gr gAB).cell 2 (v := .map (some M1)) rfl
    have p0 := HP.out.cell 0 (v := .string s) rfl
    have p1 := HP.out.cell 1 (v := .int .i64 n) rfl
    go_upto_region 4 with fail
    refine wp_region_rely [fx (.pointer (some ⟨B, 0, none⟩)), fx (.pointer (some ⟨B, 0, none⟩)), fx (.pointer (some ⟨B, 2, none⟩)), fx (.map (some M1)), fx (.agg #[.string s, .int .i64 n]), fx (.slice (some ⟨b9, o9, none⟩) L.length c), fx (.slice (some ⟨b9, o9, none⟩) L.length c)]
      (by kernel_rfl) (by kernel_rfl) (by repeat (first | exact Stable.nil | refine Stable.fix ?_)) ?_ ?_
    · refine ⟨?_, ?_, ?_, ?_, ?_, ?_, ?_, trivial⟩
      all_goals
        intro a wr hg hold
        have h0 : a.tmps[0]?.getD undef = .pointer (some ⟨B, 0, none⟩) := hold 0 rfl
        have h6 : a.tmps[6]?.getD undef = .pointer (some ⟨p, 0, none⟩) := hold 6 rfl
        clear hold
        have y2 := Gr.at hg b2
        have x0 := Gr.at hg p0
        have x1 := Gr.at hg p1
        have hlk := (GMap.run (HM1.out.gr (gAB.trans hg)) bpred_keyed Tryd.underlying58 (zero_held wr) (x := (s, n)) Hkey.out).1
        rw [HF1.out] at hlk
        simp only [kPred, Option.getD_some] at hlk
        clear b2 p0 p1
        simp [predsImp, Region.binds, dstAt, fx]
        intros
        first
          | (rw [if_pos (by simp [*])]
             intro K hK)
          | (rename_i K hK)
        go_simp
      all_goals exact hK _ _ rfl (Gr.rfl' _)
    · intro wc hg
      rintro _ rfl _ rfl _ rfl _ rfl _ rfl _ rfl _ rfl
      have gC := gAB.trans hg
      replace HI := Lib.hid (HI.out.gr hg)
      replace HR := Lib.hid (HR.out.gr hg)
      have i0 := HI.out.cell 0 (v := .int .i64 id) rfl
      clear b2 p0 p1 hg gB gAB
      simp only [finAll, Act.put, List.setIfInBounds_toArray, List.set_cons_succ, List.set_cons_zero]
      go_upto_region 6 with (first
        | (go_at_call 70; refine (Hix.out wc gC _ i0).mono ?_; rintro e wd ⟨rfl, hb⟩; have gD := gC.trans hb; replace HR := Lib.hid (HR.out.gr hb); clear hb i0)
        | fail)
      have z0 : wd.cell? ⟨b9, o9 + k * 9, none⟩ = some (.int .i64 y.i) := Hel.out wd gD 0 _ rfl
      have z1 := Hel.out wd gD 1 _ rfl
      have z2 := Hel.out wd gD 2 _ rfl
      have z3 := Hel.out wd gD 3 _ rfl
      have z4 := Hel.out wd gD 4 _ rfl
      have z5 := Hel.out wd gD 5 _ rfl
      have z6 := Hel.out wd gD 6 _ rfl
      have z7 := Hel.out wd gD 7 _ rfl
      have z8 := Hel.out wd gD 8 _ rfl
      have Hcv := Lib.hid (clVal_eq y.h y.b)
      go_upto_region 7 with (first
        | (go_at_call 65; rewrite [← Hcv.out]; refine (copied_calls y.h y.b _ (Tm.In_below gD Hels.out.1) (Tm.In_below gD Hels.out.2.1) Hels.out.2.2.1 Hels.out.2.2.2.1).mono ?_; rintro e we ⟨h2, b2, rfl, i1, i2, j1, j2, o1, o2, hb⟩; have I1 := Lib.hid i1; have I2 := Lib.hid i2; have J1 := Lib.hid j1; have J2 := Lib.hid j2; have O1 := Lib.hid o1; have O2 := Lib.hid o2; have gE := gD.trans hb; have hszd := gD.size; have hltr := HR.out.lt; replace HR := Lib.hid (HR.out.gr hb); rewrite [clVal_eq]; clear i1 i2 j1 j2 o1 o2 hb z0 z1 z2 z3 z4 z5 z6 z7 z8; obtain ⟨y0, y1, y2, y3, y4, y5, y6, y7⟩ := HR.out.cells; obtain ⟨f0, f1, f2, f3, f4, f5, f6, f7⟩ := HR.out.open_)
        | fail)
      have kk := Kp.set8 (C := fun x => x = w.heap.size + 1) (w := we) (b := w.heap.size + 1) rfl (.int .i64 h2.k) (.int .i64 h2.n) (.string h2.s) (.slice h2.p h2.l.length h2.c) (.int .i64 b2.k) (.int .i64 b2.n) (.string b2.s) (.slice b2.p b2.l.length b2.c)
      have hz := Blk8.set8 HR.out (.int .i64 h2.k) (.int .i64 h2.n) (.string h2.s) (.slice h2.p h2.l.length h2.c) (.int .i64 b2.k) (.int .i64 b2.n) (.string b2.s) (.slice b2.p b2.l.length b2.c)
      generalize ((((((((we.setCell ⟨w.heap.size + 1, 0, none⟩ (.int .i64 h2.k)).setCell ⟨w.heap.size + 1, 1, none⟩ (.int .i64 h2.n)).setCell ⟨w.heap.size + 1, 2, none⟩ (.string h2.s)).setCell ⟨w.heap.size + 1, 3, none⟩ (.slice h2.p h2.l.length h2.c)).setCell ⟨w.heap.size + 1, 4, none⟩ (.int .i64 b2.k)).setCell ⟨w.heap.size + 1, 5, none⟩ (.int .i64 b2.n)).setCell ⟨w.heap.size + 1, 6, none⟩ (.string b2.s)).setCell ⟨w.heap.size + 1, 7, none⟩ (.slice b2.p b2.l.length b2.c)) = wZ at *
      clear y0 y1 y2 y3 y4 y5 y6 y7 f0 f1 f2 f3 f4 f5 f6 f7
      obtain ⟨y0, y1, y2, y3, y4, y5, y6, y7⟩ := hz.cells
      refine bodyPost_ret (v := .tuple #[clVal h2 b2, .int .i64 0]) (by simp [results, Tryd.results24, go_sem, clVal, y0, y1, y2, y3, y4, y5, y6, y7]) rfl ?_
      exact hR.out h2 b2 wZ (tm_kp I1.out O1.out (fun x h1 (h9 : x = w.heap.size + 1) => by omega) kk) (tm_kp I2.out O2.out (fun x h1 (h9 : x = w.heap.size + 1) => by omega) kk) J1.out J2.out (Below.trans gE (kk.below (fun x hx => by have hx : x = w.heap.size + 1 := hx; omega) gE.size))
end Go.Proofs.YtjdoflfdlhpbmaaDoor

namespace Go.Proofs.YtjdoflfdlhpbmaaDoor
open Go.RowKit Go.Maps Go.Lib

theorem intsl_own {w : World} {B : Nat} {v : Value} {V : List Int} (h : w.ownsRow B 3 1 v V.length (V.map (.int .i64))) (hV : ∀ n ∈ V, In64 n) : ∃ q c, v = .slice q V.length c ∧ IntSl w q c V := by
  rcases h.2 with ⟨rfl, h1⟩ | ⟨g, cap, cur, rfl, hbg, hg, hnc, hcm, hcs, htake⟩
  · have hn : V = [] := List.eq_nil_of_length_eq_zero h1
    subst hn
    exact ⟨none, 0, rfl, Nat.le_refl _, by omega, hV, .inl rfl⟩
  · simp only [maxLen] at hcm
    refine ⟨some ⟨g, 0, none⟩, cap, rfl, hnc, by omega, hV, .inr ⟨g, 0, rfl, (Array.getElem?_eq_some_iff.1 hg).1, fun i n hn => ?_⟩⟩
    have hi : i < V.length := (List.getElem?_eq_some_iff.1 hn).1
    rw [Nat.zero_add, World.ownsRow.cellAt h i (by omega), List.getElem?_map, hn]
    rfl
/-- The numbers of those that are let through. -/
def lookT (g : T) (E : List HdT) : List Int := (E.filter fun y => letsT g y.h).map (·.i)
theorem lookT_next (g : T) (E : List HdT) : lookT g E = match nextT g E with
    | none => []
    | some (x, r) => x.i :: lookT g r := by
  rw [lookT, nextT_filter]
  cases nextT g E with
  | none => rfl
  | some x => rfl
/-- What Look hands back. -/
def RetLookP (V : List Int) (w : World) (e : Ending) (w' : World) : Prop := ∃ v B0, e = .returned (.tuple #[v, .int .i64 0]) ∧ w'.ownsRow B0 3 1 v V.length (V.map (.int .i64)) ∧ Gr w w'

set_option maxHeartbeats 8000000 in
set_option maxRecDepth 100000 in
theorem lookP_bad (B : Nat) (G : Tm) (w : World) (hG : G.In w) (E : Int) (hE : (G.erase.formed = false ∧ E = 2) ∨ (G.erase.formed = true ∧ G.erase.callable = false ∧ E = 7)) :
    Calls Tryd.prog 72 #[.pointer (some ⟨B, 0, none⟩), G.val] w fun e w' => e = .returned (.tuple #[.slice none 0 0, .int .i64 E]) ∧ Gr w w' := by
  have hR : Hid (∀ w', Gr w w' → (fun (e : Ending) (w' : World) => e = .returned (.tuple #[.slice none 0 0, .int .i64 E]) ∧ Gr w w') (.returned (.tuple #[.slice none 0 0, .int .i64 E])) w') := fun w' h => ⟨rfl, h⟩
  generalize (fun (e : Ending) (w' : World) => e = .returned (.tuple #[.slice none 0 0, .int .i64 E]) ∧ Gr w w') = Q at hR ⊢
  have hview := Lib.hid (fun W (hg : Gr w W) => view_bad B G W (Tm.In_below hg hG) E hE)
  have hne : (E != 0) = true := by rcases hE with h | h <;> simp [h]
  have Hne := Lib.hid hne
  clear hG hE hne
  have Hgv := Lib.hid (show G.val = .agg #[.int .i64 G.k, .int .i64 G.n, .string G.s, .slice G.p G.l.length G.c] from rfl)
  rw [Hgv.out]
  go_enter Tryd.func72, Tryd.ntmps72
  try simp only [List.append_eq, List.cons_append, List.nil_append]
  go_upto_region 1 with fail
  have hN := Blk4.new w (.int .i64 G.k) (.int .i64 G.n) (.string G.s) (.slice G.p G.l.length G.c)
  have gA : Gr w (w.alloc (.cells #[.int .i64 G.k, .int .i64 G.n, .string G.s, .slice G.p G.l.length G.c] 34)) := by go_grown
  generalize w.alloc (.cells #[.int .i64 G.k, .int .i64 G.n, .string G.s, .slice G.p G.l.length G.c] 34) = wA at *
  obtain ⟨⟨t0, t1, t2, t3⟩, _, _⟩ := hN.parts
  go_upto_region 2 with (first
    | (go_at_call 74; rewrite [← Hgv.out]; refine (hview.out _ gA).mono ?_; rintro e wB ⟨rfl, hb⟩; have gB := Lib.hid (gA.trans hb); clear hb t0 t1 t2 t3)
    | fail)
  have hne := Hne.out
  go_wp2_with fail
  exact hR.out _ gB.out

set_option maxHeartbeats 8000000 in
set_option maxRecDepth 100000 in
theorem lookP_calls (S : Nat → Prop) (B M1 M2 : Nat) (va : Value) (st : BSt) (G : Tm) (w : World) (hB : BaseG S w B M1 M2 va st) (hSw : ∀ x, S x → x < w.heap.size) (hG : G.In w) (fG : G.erase.formed = true) (cG : G.erase.callable = true) (hlast : st.last ≤ 8388608) :
    Calls Tryd.prog 72 #[.pointer (some ⟨B, 0, none⟩), G.val] w (RetLookP (lookT G.erase ((st.pr (keyT G.erase)).getD [])) w) := by
  have hR : Hid (∀ v B0 w', w'.ownsRow B0 3 1 v (lookT G.erase ((st.pr (keyT G.erase)).getD [])).length ((lookT G.erase ((st.pr (keyT G.erase)).getD [])).map (.int .i64)) → Gr w w' → RetLookP (lookT G.erase ((st.pr (keyT G.erase)).getD [])) w (.returned (.tuple #[v, .int .i64 0])) w') := fun v B0 w' h1 h2 => ⟨v, B0, rfl, h1, h2⟩
  have hbd : ((st.pr (keyT G.erase)).getD []).length ≤ 8388608 := by
    cases hp : st.pr (keyT G.erase) with
    | none => simp
    | some L => have := hB.bdp _ L hp; simp only [Option.getD_some]; omega
  have heO : eOk G.erase ((st.pr (keyT G.erase)).getD []) := by
    refine hds_eOk fun x hx => ?_
    cases hp : st.pr (keyT G.erase) with
    | none => rw [hp] at hx; cases hx
    | some L =>
      rw [hp] at hx
      have := hB.hds _ L hp x hx
      rw [keyT_tm] at this
      exact this
  obtain ⟨f, hm1, hrow⟩ := hB.m1
  obtain ⟨p, c, L, hf, hL, hLe⟩ : ∃ (p : Option Addr) (c : Nat) (L : List Hd), (f (G.s, (G.l.length : Int))).getD (.slice none 0 0) = .slice p L.length c ∧ HSl S w p c L ∧ L.map Hd.er = (st.pr (keyT G.erase)).getD [] := by
    have hr := hrow (G.s, (G.l.length : Int))
    rw [keyT_tm]
    cases hp : st.pr (G.s, (G.l.length : Int)) with
    | none =>
      rw [hp] at hr
      rw [show f (G.s, (G.l.length : Int)) = none from hr]
      exact ⟨none, 0, [], rfl, ⟨Nat.le_refl _, by simp, by omega, .inl rfl, fun x hx => by cases hx⟩, rfl⟩
    | some LT =>
      rw [hp] at hr
      obtain ⟨p, c, M, h1, h2, h3⟩ := hr
      rw [h1]
      exact ⟨p, c, M, rfl, h2, h3⟩
  generalize (st.pr (keyT G.erase)).getD [] = E at *
  generalize RetLookP (lookT G.erase E) w = Q at hR ⊢
  have hview := Lib.hid (fun W (hg : Gr w W) => view_gen S B M1 _ _ _ f G p c L W (hB.blk.gr hg) (hm1.gr hg) hf (hL.gr hg) (Tm.In_below hg hG) fG cG)
  have HE := Lib.hid heO
  have HLe := Lib.hid hLe
  have HSw := Lib.hid hSw
  have Hbd := Lib.hid hbd
  clear hB hm1 hrow hf hL hG fG cG heO hSw hbd
  have Hgv := Lib.hid (show G.val = .agg #[.int .i64 G.k, .int .i64 G.n, .string G.s, .slice G.p G.l.length G.c] from rfl)
  rw [Hgv.out]
  go_enter Tryd.func72, Tryd.ntmps72
  try simp only [List.append_eq, List.cons_append, List.nil_append]
  go_upto_region 1 with fail
  have hN := Blk4.new w (.int .i64 G.k) (.int .i64 G.n) (.string G.s) (.slice G.p G.l.length G.c)
  have gA : Gr w (w.alloc (.cells #[.int .i64 G.k, .int .i64 G.n, .string G.s, .slice G.p G.l.length G.c] 34)) := by go_grown
  generalize w.alloc (.cells #[.int .i64 G.k, .int .i64 G.n, .string G.s, .slice G.p G.l.length G.c] 34) = wA at *
  obtain ⟨⟨t0, t1, t2, t3⟩, _, _⟩ := hN.parts
  go_upto_region 2 with (first
    | (go_at_call 74; rewrite [← Hgv.out]; refine (hview.out _ gA).mono ?_; rintro e wB ⟨V, p2, c2, M, G2, rfl, hv1, hv2, hv3, hv4, hv5, hv6, hv7, hb⟩; have gB := Lib.hid (gA.trans hb); have HV := Lib.hid (And.intro hv1 (And.intro hv2 (And.intro (hv3.trans HLe.out) (And.intro hv4 (And.intro hv5 (And.intro hv6 hv7)))))); have hsA := hb.size; clear hb t0 t1 t2 t3 hv1 hv2 hv3 hv4 hv5 hv6 hv7)
    | fail)
  have hVw : wA.heap.size ≤ V := HV.out.2.2.2.2.2.2
  have hVl : V < wB.heap.size := HV.out.1.lt
  have hAw := gA.size
  have hbw := gB.out.size
  -- where all that is read lies
  obtain ⟨S2, hS2, hG2, nS', lS'⟩ : ∃ S2 : Nat → Prop, Hid (HSl S2 wB p2 c2 M) ∧ Hid (G2.On S2) ∧ Hid (¬ S2 V) ∧ Hid (∀ x, S2 x → x < wB.heap.size) :=
    ⟨fun x => S x ∨ (wA.heap.size ≤ x ∧ x ≠ V ∧ x < wB.heap.size), HV.out.2.1.mono fun x h _ => .inl h, (Tm.On.and HV.out.2.2.2.2.2.1 HV.out.2.2.2.1.on).mono fun x h => .inr ⟨h.1.1, h.1.2, h.2⟩,
      fun h => h.elim (fun h => by have := HSw.out V h; omega) (fun h => h.2.1 rfl), fun x h => h.elim (fun h => by have := HSw.out x h; omega) (fun h => h.2.2)⟩
  have hML : M.length = E.length := by rw [← HV.out.2.2.1, List.length_map]
  go_wp2_with fail
  go_loopg [8] M.length (fun m u wr => ∃ (v : Value) (L1 : List Hd) (p1 : Option Addr) (c1 : Nat) (ns : List Int), v = u ∧ L1.length ≤ m ∧ Hid (BlkT wr V 130 #[.slice p1 L1.length c1, .int .i64 G2.k, .int .i64 G2.n, .string G2.s, .slice G2.p G2.l.length G2.c] ∧ HSl S2 wr p1 c1 L1 ∧ eOk G.erase (L1.map Hd.er) ∧ wr.ownsRow wB.heap.size 3 1 v ns.length (ns.map (.int .i64)) ∧ ns ++ lookT G.erase (L1.map Hd.er) = lookT G.erase E ∧ ns.length + L1.length ≤ E.length) ∧ Kp (fun x => x = V ∨ wB.heap.size ≤ x) wB wr)
  case atStart => exact ⟨_, M, p2, c2, [], rfl, Nat.le_refl _, ⟨HV.out.1, hS2.out, by rw [HV.out.2.2.1]; exact HE.out, World.ownsRow_nil _ _ _ 1, by rw [HV.out.2.2.1]; rfl, by rw [hML]; exact Nat.le_of_eq (Nat.zero_add _)⟩, Kp.refl _ _⟩
  case round =>
    obtain ⟨v, L1, p1, c1, ns, rfl, hm, hst, hkp⟩ := hrel
    have hnx := next_calls S2 V G2 L1 p1 c1 wr nS'.out (fun x h => Nat.lt_of_lt_of_le (lS'.out x h) hkp.size) hst.out.1 hst.out.2.1 (tm_kp HV.out.2.2.2.1 hG2.out (fun x h h9 => h9.elim (fun h9 => nS'.out (h9 ▸ h)) fun h9 => by have := lS'.out x h; omega) hkp) hG2.out (eOk.tm (by rw [HV.out.2.2.2.2.1]; exact hst.out.2.2.1))
    rw [HV.out.2.2.2.2.1] at hnx
    obtain ⟨r, hr⟩ : ∃ r, nextT G.erase (L1.map Hd.er) = r := ⟨_, rfl⟩
    rw [hr] at hnx
    have Hnx := Lib.hid hnx
    have Hr := Lib.hid hr
    clear hnx hr
    have hsr := hkp.size
    have hkV : Hid (∀ w', Kp (fun b => b = V) wr w' → w'.ownsRow wB.heap.size 3 1 v ns.length (ns.map (.int .i64))) := fun w' hk => ownsRow_kpv hst.out.2.2.2.1 hk (fun j hj (e : j = V) => by have := (hst.out.2.2.2.1.lt j hj).1; omega)
    cases r with
    | none =>
      go_upto_region 6 with (first
        | (go_at_call 29; refine Hnx.out.mono ?_; rintro e w2 ⟨L2, p3, c3, h1, h2, h3, h4, rfl⟩; have HK := Lib.hid h3; rewrite [clVal_four]; clear h1 h2 h3 h4)
        | fail)
      have hend : lookT G.erase E = ns := by rw [← hst.out.2.2.2.2.1, lookT_next, Hr.out, List.append_nil]
      have hg2 : Gr w w2 := Below.trans (Below.trans gB.out (hkp.below (B := w.heap.size) (fun x hx => hx.elim (fun h => by omega) fun h => by omega) hbw)) (HK.out.below (B := w.heap.size) (fun x (hx : x = V) => by omega) (by omega))
      have hsz2 := HK.out.size
      have Hend := Lib.hid (hR.out v wB.heap.size _ (by rw [hend]; exact ownsRow_gr (hkV.out w2 HK.out) (show Gr w2 (w2.alloc (.cells #[.int .i64 0, .int .i64 0, .string ⟨#[]⟩, .slice none 0 0, .int .i64 0, .int .i64 0, .string ⟨#[]⟩, .slice none 0 0] 36)) by go_grown)) (Gr.trans hg2 (by go_grown)))
      clear hend hg2
      go_wp2_with fail
      exact Hend.out
    | some xr =>
      obtain ⟨x, rest⟩ := xr
      go_upto_region 6 with (first
        | (go_at_call 29; refine Hnx.out.mono ?_; rintro e w2 ⟨L2, p3, c3, h1, h2, h3, h4, hm2, bm2, rfl, i1, i2, _, _, _, _⟩; have HK := Lib.hid h3; have HN := Lib.hid (And.intro h1 (And.intro h2 h4)); rewrite [clVal_four]; clear h1 h2 h3 h4 i1 i2)
        | fail)
      have gC : Gr w2 (w2.alloc (.cells #[.int .i64 hm2.k, .int .i64 hm2.n, .string hm2.s, .slice hm2.p hm2.l.length hm2.c, .int .i64 bm2.k, .int .i64 bm2.n, .string bm2.s, .slice bm2.p bm2.l.length bm2.c] 36)) := by go_grown
      generalize w2.alloc (.cells #[.int .i64 hm2.k, .int .i64 hm2.n, .string hm2.s, .slice hm2.p hm2.l.length hm2.c, .int .i64 bm2.k, .int .i64 bm2.n, .string bm2.s, .slice bm2.p bm2.l.length bm2.c] 36) = w3 at *
      have HO3 := Lib.hid (ownsRow_gr (hkV.out w2 HK.out) gC)
      have GC3 := Lib.hid gC
      have hsz3 : wB.heap.size ≤ w3.heap.size := by have := HK.out.size; have := gC.size; omega
      have hnl : ns.length ≤ 8388608 := by have := hst.out.2.2.2.2.2; have := Hbd.out; omega
      clear gC
      go_wp2_with (first
        | (at_builtin
           refine wpList_append_one rfl _ _ 40 3 rfl Tryd.underlying40 infoInt rfl (by decide) wB.heap.size v ns.length (ns.map (.int .i64)) _ 1 [.int .i64 x.i] (by rfl) (by rfl) (ownsRow_gr HO3.out (by go_grown)) (by simp; omega) rfl (by
             intro j u hu
             match j, hu with
             | 0, hu => cases hu; go_simp
             | j + 1, hu => simp at hu) (by
             intro u hu
             simp only [List.mem_cons, List.mem_nil_iff, or_false] at hu
             rw [hu]; rfl) (by simp only [maxLen]; omega) (by omega) ?_
           intro v' w' h2' h3 h4
           have HG6 := Lib.hid h3
           have HO6 := Lib.hid h2'
           clear h2' h3 h4)
        | fail)
      have hrl := restOf_len G.erase (L1.map Hd.er)
      rw [Hr.out] at hrl
      have hlen2 : L2.length < L1.length := by
        have h5 := hrl.2 x rest rfl
        rw [← HN.out.2.2, List.length_map, List.length_map] at h5
        exact h5
      have Hrl := Lib.hid hlen2
      go_roundg L2.length
      case measure => have := Hrl.out; omega
      case rel =>
        have hk23 : Kp (fun _ => False) w2 w3 := Kp.of_gr GC3.out
        have hk6 : Kp (fun j => v.ownBlock = some j) (w3.alloc (.cells #[.int .i64 x.i] 3)) w' := Kp.of_grown HG6.out fun r hr => hr
        have k34 : Kp (fun _ => False) w3 (w3.alloc (.cells #[.int .i64 x.i] 3)) := Kp.of_gr (by go_grown)
        have k26 : Kp (fun j => v.ownBlock = some j) w2 w' := ((hk23.mono fun _ h => h.elim).trans (k34.mono fun _ h => h.elim)).trans hk6
        have hvl := hst.out.2.2.2.1.lt
        have nV : ¬ v.ownBlock = some V := fun e => by have := (hvl V e).1; omega
        refine ⟨v', L2, p3, c3, ns ++ [x.i], rfl, Nat.le_refl _, ⟨HN.out.1.kp k26 nV, HN.out.2.1.kp k26 (fun j hj e => by have := lS'.out j hj; have := (hvl j e).1; omega), ?_, ?_, ?_, ?_⟩, ?_⟩
        · rw [HN.out.2.2]
          have h8 := hst.out.2.2.1.rest
          rw [Hr.out] at h8
          exact h8
        · rw [List.length_append, List.map_append]; exact HO6.out
        · rw [← hst.out.2.2.2.2.1, lookT_next G.erase (L1.map Hd.er), Hr.out, HN.out.2.2, List.append_assoc]; rfl
        · have := hst.out.2.2.2.2.2; have := Hrl.out; rw [List.length_append]; simp only [List.length_cons, List.length_nil]; omega
        · exact (hkp.trans (HK.out.mono fun j hj => .inl hj)).trans ((k26.mono fun j hj => .inr (hvl j hj).1))
end Go.Proofs.YtjdoflfdlhpbmaaDoor

namespace Go.Proofs.YtjdoflfdlhpbmaaDoor
open Go.RowKit Go.Maps Go.Lib

/-- A clause that ever was, in memory. -/
structure Hr where
  i : Int
  h : Tm
  b : Tm
  t : Bool
def Hr.er (x : Hr) : HrT := ⟨x.i, x.h.erase, x.b.erase, x.t⟩
def Hr.cells (x : Hr) : List Value := .int .i64 x.i :: (x.h.cells ++ (x.b.cells ++ [.bool x.t]))
theorem rCells_one {x : Hr} (u : Value) (hu : u ∈ x.cells) : u.oneCell' = true := by
  simp only [Hr.cells, Tm.cells, List.mem_cons, List.mem_append, List.mem_nil_iff, or_false] at hu
  rcases hu with rfl | (rfl | rfl | rfl | rfl) | (rfl | rfl | rfl | rfl) | rfl <;> rfl
/-- A list of clauses, that lies on S. -/
structure HrSl (S : Nat → Prop) (w : World) (p : Option Addr) (c : Nat) (L : List Hr) : Prop where
  len : L.length ≤ c
  bd : L.length * 128 ≤ 140737488351232
  cap : c ≤ 9223372036854775807
  row : L = [] ∨ ∃ b o, p = some ⟨b, o, none⟩ ∧ S b ∧ b < w.heap.size ∧ ∀ i x, L[i]? = some x → ∀ j v, x.cells[j]? = some v → w.cell? ⟨b, o + i * 10 + j, none⟩ = some v
  els : ∀ x ∈ L, x.h.In w ∧ x.b.In w ∧ x.h.erase.formed = true ∧ x.b.erase.formed = true ∧ x.h.On S ∧ x.b.On S
theorem HrSl.kp {C S : Nat → Prop} {w w' : World} {p : Option Addr} {c : Nat} {L : List Hr} (h : HrSl S w p c L) (hK : Kp C w w') (hC : ∀ b, S b → ¬ C b) : HrSl S w' p c L := by
  refine ⟨h.len, h.bd, h.cap, h.row.imp id ?_, fun x hx => ?_⟩
  · rintro ⟨b, o, hp, hb, hl, hr⟩
    exact ⟨b, o, hp, hb, Nat.lt_of_lt_of_le hl hK.size, fun i x hx j v hv => (World.cell?_of_block (hK.block b hl (hC b hb))).trans (hr i x hx j v hv)⟩
  · obtain ⟨h1, h2, h3, h4, h5, h6⟩ := h.els x hx
    exact ⟨in_after' h1 h5 fun b hb hl o => World.cell?_of_block (hK.block b hl (hC b hb)), in_after' h2 h6 fun b hb hl o => World.cell?_of_block (hK.block b hl (hC b hb)), h3, h4, h5, h6⟩
theorem HrSl.gr {S : Nat → Prop} {w w' : World} {p : Option Addr} {c : Nat} {L : List Hr} (h : HrSl S w p c L) (hg : Gr w w') : HrSl S w' p c L := h.kp (C := fun _ => False) (Kp.of_gr hg) fun _ _ h => h
theorem HrSl.tail {S : Nat → Prop} {w : World} {b o c : Nat} {x : Hr} {L : List Hr} {q : Option Addr} (h : HrSl S w (some ⟨b, o, none⟩) c (x :: L)) (hq : L ≠ [] → q = some ⟨b, o + 10, none⟩) : HrSl S w q (c - 1) L := by
  have hl := h.len
  have hb := h.bd
  simp only [List.length_cons] at hl hb
  refine ⟨by omega, by omega, by have := h.cap; omega, ?_, fun y hy => h.els y (List.mem_cons_of_mem _ hy)⟩
  by_cases hL : L = []
  · exact .inl hL
  · rcases h.row with h0 | ⟨b', o', hp, hS, hlt, hr⟩
    · cases h0
    · cases hp
      refine .inr ⟨b, o + 10, hq hL, hS, hlt, fun i y hy j v hv => ?_⟩
      have := hr (i + 1) y (by simpa using hy) j v hv
      rwa [show o + (i + 1) * 10 + j = o + 10 + i * 10 + j by omega] at this

theorem rcells_ten (x : Hr) : x.cells.length = 10 := rfl
theorem rcells_len : ∀ l : List Hr, (l.flatMap Hr.cells).length = l.length * 10
  | [] => rfl
  | x :: xs => by rw [List.flatMap_cons, List.length_append, rcells_len xs, List.length_cons, rcells_ten]; omega
theorem rcells_at : ∀ {l : List Hr} {i : Nat} {x : Hr}, l[i]? = some x → ∀ j, j < 10 → (l.flatMap Hr.cells)[i * 10 + j]? = x.cells[j]?
  | y :: ys, 0, x, h, j, hj => by
    simp only [List.getElem?_cons_zero, Option.some.injEq] at h
    subst h
    rw [List.flatMap_cons, Nat.zero_mul, Nat.zero_add, List.getElem?_append_left (by rw [rcells_ten]; exact hj)]
  | y :: ys, i + 1, x, h, j, hj => by
    simp only [List.getElem?_cons_succ] at h
    rw [List.flatMap_cons, List.getElem?_append_right (by rw [rcells_ten]; omega), rcells_ten, show (i + 1) * 10 + j - 10 = i * 10 + j by omega]
    exact rcells_at h j hj
theorem rcells_one (l : List Hr) : ∀ u ∈ l.flatMap Hr.cells, u.oneCell' = true := by
  intro u hu
  obtain ⟨x, _, hx⟩ := List.mem_flatMap.1 hu
  exact rCells_one u hx

/-- A list of clauses as a slice and its cells. -/
theorem HrSl.rw {S : Nat → Prop} {w : World} {p : Option Addr} {c : Nat} {L : List Hr} (h : HrSl S w p c L) : Rw.In 10 w ⟨p, L.length, c, L.flatMap Hr.cells⟩ := by
  refine ⟨rcells_len L, rcells_one L, ?_⟩
  rcases h.row with rfl | ⟨b, o, hp, _, _, hr⟩
  · exact .inl rfl
  · refine .inr ⟨b, o, hp, fun j u hu => ?_⟩
    have hj : j < L.length * 10 := by rw [← rcells_len L]; exact (List.getElem?_eq_some_iff.1 hu).1
    have hx : L[j / 10]? = some L[j / 10] := List.getElem?_eq_getElem (by omega)
    have h10 := rcells_at hx (j % 10) (Nat.mod_lt _ (by decide))
    rw [show j / 10 * 10 + j % 10 = j by omega] at h10
    have := hr (j / 10) _ hx (j % 10) u (h10.symm.trans hu)
    rwa [show o + j / 10 * 10 + j % 10 = o + j by omega] at this

/-- A row of one's own as a list of clauses. -/
theorem HrSl.of_own {S : Nat → Prop} {w : World} {base : Nat} {v : Value} {L : List Hr} (h : w.ownsRow base 75 10 v L.length (L.flatMap Hr.cells)) (hS : ∀ g, base ≤ g → g < w.heap.size → S g) (hbd : L.length * 128 ≤ 140737488351232)
    (hels : ∀ x ∈ L, x.h.In w ∧ x.b.In w ∧ x.h.erase.formed = true ∧ x.b.erase.formed = true ∧ x.h.On S ∧ x.b.On S) : ∃ p c, v = .slice p L.length c ∧ HrSl S w p c L := by
  rcases h.2 with ⟨rfl, h0⟩ | ⟨g, cap, cur, rfl, hg, hb, hn, hc, _⟩
  · rw [h0]
    exact ⟨none, 0, rfl, ⟨by omega, hbd, by omega, .inl (List.eq_nil_of_length_eq_zero h0), hels⟩⟩
  · refine ⟨_, _, rfl, ⟨hn, hbd, by simp only [maxLen] at hc; omega, .inr ⟨g, 0, rfl, hS g hg (Array.getElem?_eq_some_iff.1 hb).1, (Array.getElem?_eq_some_iff.1 hb).1, fun i x hx j u hu => ?_⟩, hels⟩⟩
    have hj : j < 10 := by rw [← rcells_ten x]; exact (List.getElem?_eq_some_iff.1 hu).1
    have := World.ownsRow.cells (g := g) h rfl (i * 10 + j) u ((rcells_at hx j hj).trans hu)
    rwa [Go.WideShapes.add_plain, ← Nat.add_assoc] at this
theorem HrSl.mono {S S' : Nat → Prop} {w : World} {p : Option Addr} {c : Nat} {L : List Hr} (h : HrSl S w p c L) (hS : ∀ b, S b → b < w.heap.size → S' b) : HrSl S' w p c L := by
  refine ⟨h.len, h.bd, h.cap, h.row.imp id fun ⟨b, o, h1, h2, h3, h4⟩ => ⟨b, o, h1, hS b h2 h3, h3, h4⟩, fun x hx => ?_⟩
  obtain ⟨h1, h2, h3, h4, h5, h6⟩ := h.els x hx
  exact ⟨h1, h2, h3, h4, (Tm.On.and h5 h1.on).mono fun b hb => hS b hb.1 hb.2, (Tm.On.and h6 h2.on).mono fun b hb => hS b hb.1 hb.2⟩


theorem infoHr : (Tryd.prog.info? 75).map (fun i => (i.zero, i.size, i.bytes)) = some (some (.agg #[.int .i64 0, .int .i64 0, .int .i64 0, .string ⟨#[]⟩, .slice none 0 0, .int .i64 0, .int .i64 0, .string ⟨#[]⟩, .slice none 0 0, .bool false]), 10, 128) := by kernel_rfl
/-- The document's base. -/
structure RefG (S : Nat → Prop) (w : World) (R : Nat) (p : Option Addr) (c : Nat) (L : List Hr) : Prop where
  blk : BlkT w R 27 #[.slice p L.length c]
  sl : HrSl S w p c L
  sep : ¬ S R
theorem RefG.kp {C S : Nat → Prop} {w w' : World} {R : Nat} {p : Option Addr} {c : Nat} {L : List Hr} (h : RefG S w R p c L) (hK : Kp C w w') (hC : ¬ C R) (hS : ∀ b, S b → ¬ C b) : RefG S w' R p c L := ⟨h.blk.kp hK hC, h.sl.kp hK hS, h.sep⟩
theorem RefG.gr {S : Nat → Prop} {w w' : World} {R : Nat} {p : Option Addr} {c : Nat} {L : List Hr} (h : RefG S w R p c L) (hg : Gr w w') : RefG S w' R p c L := ⟨h.blk.gr hg, h.sl.gr hg, h.sep⟩
theorem RefG.mono {S S' : Nat → Prop} {w : World} {R : Nat} {p : Option Addr} {c : Nat} {L : List Hr} (h : RefG S w R p c L) (hS : ∀ b, S b → b < w.heap.size → S' b) (hR : ¬ S' R) : RefG S' w R p c L := ⟨h.blk, h.sl.mono hS, hR⟩
/-- The cells of an element. -/
theorem HrSl.elem {S : Nat → Prop} {w : World} {b o c : Nat} {L : List Hr} (h : HrSl S w (some ⟨b, o, none⟩) c L) (k : Nat) (hk : k < L.length) : ∀ j v, (L[k].cells)[j]? = some v → w.cell? ⟨b, o + k * 10 + j, none⟩ = some v := by
  rcases h.row with rfl | ⟨b', o', hp, _, _, hr⟩
  · simp at hk
  · cases hp
    exact hr k _ (List.getElem?_eq_getElem hk)
theorem HrSl.elem0 {S : Nat → Prop} {w : World} {b o c : Nat} {L : List Hr} (h : HrSl S w (some ⟨b, o, none⟩) c L) (k : Nat) (hk : k < L.length) : w.cell? ⟨b, o + k * 10, none⟩ = some (.int .i64 L[k].i) := h.elem k hk 0 _ rfl
theorem HrSl.ptr {S : Nat → Prop} {w : World} {p : Option Addr} {c : Nat} {L : List Hr} (h : HrSl S w p c L) (hl : 0 < L.length) : ∃ b o, p = some ⟨b, o, none⟩ := by
  rcases h.row with rfl | ⟨b', o', hp, _⟩
  · simp at hl
  · exact ⟨b', o', hp⟩
end Go.Proofs.YtjdoflfdlhpbmaaDoor
