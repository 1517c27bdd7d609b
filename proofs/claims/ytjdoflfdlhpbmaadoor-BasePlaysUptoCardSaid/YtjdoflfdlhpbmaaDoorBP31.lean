/-
  hornlaw.based where a view tells one.
  hornlaw.based where a clause is asked for by its number.
  hornlaw.based where it is asked whether a name is known.
-/
import Derived.Test.YtjdoflfdlhpbmaaDoorBP30
import Derived.Test.YtjdoflfdlhpbmaaDoorBP29
namespace Go.Proofs.YtjdoflfdlhpbmaaDoor
open Go.RowKit Go.Maps Go.Lib

/-- What is told, in a world. -/
structure Told (S : Nat → Prop) (w0 w : World) (V : Nat) (G : Tm) (rest : List HdT) (z : Hr) (e : Ending) (w' : World) (L : List Hd) (p : Option Addr) (c : Nat) (h b : Tm) : Prop where
  e : e = .returned (.tuple #[.int .i64 z.i, .agg #[.int .i64 h.k, .int .i64 h.n, .string h.s, .slice h.p h.l.length h.c, .int .i64 b.k, .int .i64 b.n, .string b.s, .slice b.p b.l.length b.c], .bool true])
  v : BlkT w' V 130 (viewCells p L.length c G)
  l : HSl S w' p c L
  kp : Kp (fun b => b = V) w w'
  r : L.map Hd.er = rest
  h1 : h.In w' ∧ b.In w' ∧ h.erase = z.h.erase ∧ b.erase = z.b.erase
  h2 : h.On (w.heap.size ≤ ·) ∧ b.On (w.heap.size ≤ ·)
theorem told_calls {lo n : Nat} {w : World} {s : PlaySt} {k : Nat} (hkl : k < s.vs.length) (h : PlOk lo n w s) {rest : List HdT} {z : Hr} (hso : nextT s.vs[k].G.erase (s.vs[k].M.map Hd.er) = some (z.er.d, rest)) (W : World) (gr : Gr w W) :
    Calls Tryd.prog 29 #[.pointer (some ⟨s.vs[k].V, 0, none⟩)] W (fun e w' => ∃ L p c h b, Told (PlS W s.D) w W s.vs[k].V s.vs[k].G rest z e w' L p c h b) := by
  have hm : s.vs[k] ∈ s.vs := List.getElem_mem hkl
  have hv := (h.m.gr gr).each _ hm
  have := next_calls (PlS W s.D) s.vs[k].V s.vs[k].G s.vs[k].M s.vs[k].p s.vs[k].c W (fun hh => hh.2 (.inr (.inr (.inr (.inr (List.mem_map.2 ⟨_, hm, rfl⟩)))))) (fun b hb => hb.1) hv.v hv.m hv.g hv.go (eOk.tm (h.e _ hm).e)
  rw [hso] at this
  refine this.mono ?_
  rintro e w2 ⟨L, p', c', hb, hl, hkp, hr, hh, bb, rfl, i1, i2, e1, e2, o1, o2⟩
  exact ⟨L, p', c', hh, bb, rfl, hb, hl, hkp, hr, ⟨i1, i2, e1, e2⟩, ⟨o1, o2⟩⟩
theorem tail_of {S : Nat → Prop} {w : World} {y : Vw} {z : Hr} {N' : List Hr} {b o : Nat} {q' : Option Addr} (h : HrSl S w y.q y.d y.N) (hN : y.N = z :: N') (hq : y.q = some ⟨b, o, none⟩) (hq' : N' ≠ [] → q' = some ⟨b, o + 10, none⟩) : HrSl S w q' (y.d - 1) N' := by
  rw [hN, hq] at h
  exact h.tail hq'
/-- The state when a view has told one more. -/
theorem told_ret {lo n : Nat} {w : World} {s : PlaySt} {k : Nat} (hkl : k < s.vs.length) (h : PlOk lo n w s) {rest : List HdT} {z : Hr} {N' : List Hr} (hN : s.vs[k].N = z :: N') (hso : nextT s.vs[k].G.erase (s.vs[k].M.map Hd.er) = some (z.er.d, rest)) (hf : (rest.filter fun u => letsT s.vs[k].G.erase u.h) = (N'.map Hr.er).map HrT.d)
    {g cap b o : Nat} (hvv : s.vv = .slice (some ⟨g, 0, none⟩) s.vs.length cap) (hq : s.vs[k].q = some ⟨b, o, none⟩) {W w2 w4 w6 : World} {p' : Option Addr} {c' : Nat} {L' : List Hd} (gr : Gr w W) (h1 : BlkT w2 s.vs[k].V 130 (viewCells p' L'.length c' s.vs[k].G)) (h2 : HSl (PlS W s.D) w2 p' c' L') (h3 : Kp (fun b => b = s.vs[k].V) W w2) (h4 : L'.map Hd.er = rest)
    (g4 : Gr w2 w4) (q' : Option Addr) (hq' : N' ≠ [] → q' = some ⟨b, o + 10, none⟩) (g6 : Gr (w4.setCell ⟨g, k * 2 + 1, none⟩ (.slice q' N'.length (s.vs[k].d - 1))) w6) : RetPl lo n s w (.returned (.bool true)) w6 := by
  have hm : s.vs[k] ∈ s.vs := List.getElem_mem hkl
  have hVm : s.vs[k].V ∈ s.vs.map Vw.V := List.mem_map.2 ⟨_, hm, rfl⟩
  have hp := ((h.m.gr gr).next hkl (L' := L') h1 h2 h3).gr g4
  have hy := (hp.each { s.vs[k] with p := p', c := c', M := L' } (List.mem_iff_getElem.2 ⟨k, by simpa using hkl, by simp⟩)).n
  have ht := tail_of (y := s.vs[k]) hy hN hq hq'
  have hk1 : k < (s.vs.set k { s.vs[k] with p := p', c := c', M := L' }).length := by simpa using hkl
  obtain ⟨h5, h6⟩ := hp.pop hk1 ht (g := g) (cap := cap) (by simpa using hvv)
  simp only [List.set_set, List.getElem_set_self] at h5
  have hag := h.e _ hm
  refine ⟨rfl, _, ⟨h5.gr g6, h.a, h.c, fun y hy => ?_, Nat.le_succ_of_le h.nr, by simp only [List.length_set]; exact Nat.le_succ_of_le h.nv⟩, rfl, rfl, rfl, ?_⟩
  · rcases List.mem_or_eq_of_mem_set hy with hy | rfl
    · exact h.e y hy
    · refine ⟨?_, ?_⟩
      · simp only
        rw [h4]
        have := hag.e.rest
        rwa [hso] at this
      · simp only
        rw [h4]
        exact hf
  · have kg : ∀ b, b = g → lo ≤ b := fun b e => h.m.low b (.inr (.inr (.inr (.inl (by rw [hvv, e]; rfl)))))
    exact ((((Kp.of_gr gr).trans (h3.mono fun b (hb : b = s.vs[k].V) => h.m.low b (.inr (.inr (.inr (.inr (by rw [hb]; exact hVm))))))).trans (Kp.of_gr g4)).trans (h6.mono kg)).trans (Kp.of_gr g6)

set_option maxHeartbeats 8000000 in
set_option maxRecDepth 100000 in
theorem based_told (lo n : Nat) (w : World) (s : PlaySt) (x : Stp) (k : Nat) (hkl : k < s.vs.length) (h : PlOk lo n w s) (hk : x.k = 6) (hkx : x.n = k) (hn : n ≤ 4194304) (xd : HdT) (rest : List HdT) (hso : nextT s.vs[k].G.erase (s.vs[k].M.map Hd.er) = some (xd, rest)) :
    Calls Tryd.prog 7 #[.pointer (some ⟨s.B, 0, none⟩), .pointer (some ⟨s.R, 0, none⟩), .pointer (some ⟨s.X, 0, none⟩), x.val] w (RetPl lo n s w) := by
  have hm : s.vs[k] ∈ s.vs := List.getElem_mem hkl
  obtain ⟨z, N', hN, hz, hf⟩ := vwAg_some (h.e _ hm) hso
  subst hz
  obtain ⟨g, cap, cur, hvv, h1, h2, h3, hrow⟩ := h.m.row (by omega)
  have hlen : s.vs.length ≤ 4194304 := Nat.le_trans h.nv hn
  obtain ⟨r1, r2⟩ := hrow k hkl
  have hvw := h.m.each _ hm
  obtain ⟨b, o, hq⟩ := hvw.n.ptr (by rw [hN]; simp)
  have hD1 : s.D s.vs[k].V := .inr (.inr (.inr (.inr (List.mem_map.2 ⟨_, hm, rfl⟩))))
  have hD2 : s.D g := .inr (.inr (.inr (.inl (by rw [hvv]; rfl))))
  have hn0 := hvw.n
  rw [hN, hq] at hn0
  rw [hN, hq, List.length_cons] at r2
  obtain ⟨b', o', hbo, hbS, hbl, hcz⟩ := hn0.row.resolve_left (by simp)
  cases hbo
  have hcz0 := hcz 0 z rfl
  simp only [Nat.zero_mul, Nat.add_zero] at hcz0
  have hbV : ¬ b = s.vs[k].V := fun e => hbS.2 (e ▸ hD1)
  have hbg : ¬ b = g := fun e => hbS.2 (e ▸ hD2)
  obtain ⟨zi1, zi2, _, _, zo1, zo2⟩ := hn0.els z (by simp)
  have hcl := hn0.len
  have hcc := hn0.cap
  simp only [List.length_cons] at hcl
  have hgV : ¬ s.vs[k].V = g := fun e => (h.m.v1 _ (List.mem_map.2 ⟨_, hm, rfl⟩)).2.2.2 (by rw [hvv, e]; rfl)
  have HX := Lib.hid h.m.x
  rw [hvv] at HX
  have HZ := Lib.hid (And.intro zi1 (And.intro zi2 (And.intro (zo1.mono fun b hb (e : b = s.vs[k].V) => hb.2 (e ▸ hD1)) (And.intro (zo2.mono fun b hb (e : b = s.vs[k].V) => hb.2 (e ▸ hD1)) (And.intro (zo1.mono fun b hb (e : b = g) => hb.2 (e ▸ hD2)) (zo2.mono fun b hb (e : b = g) => hb.2 (e ▸ hD2)))))))
  have Hnext := Lib.hid (fun W (gr : Gr w W) => told_calls hkl h hso W gr)
  have hgl : g < w.heap.size := h.m.lt g hD2
  have hR := Lib.hid (fun W w2 w4 p' c' L' gr h1 h2 h3 h4 g4 q' hq' w6 g6 => told_ret (W := W) (w2 := w2) (w4 := w4) (w6 := w6) (p' := p') (c' := c') (L' := L') hkl h hN hso hf hvv hq gr h1 h2 h3 h4 g4 q' hq' g6)
  generalize RetPl lo n s w = Q at hR ⊢
  generalize s.vs[k] = y at *
  have Hk := Lib.hid hk
  have hd : decide ((k : Int) < 0) = false := by simp
  have hd2 : decide ((k : Int) ≥ (s.vs.length : Int)) = false := by simp; omega
  have hd3 : decide ((s.vs.length : Int) ≤ (k : Int)) = false := by simp; omega
  have Hkx := Lib.hid hkx
  have HCZ := Lib.hid hcz0
  have HGB := Lib.hid (show BlkT w g 71 cur from h3)
  clear h hk hkx hn hso hm hrow hvv hN hf hvw hn0 hq hcz hcz0 zi1 zi2 zo1 zo2 hbS hbl hD1 hD2
  rw [Stp.val]
  go_enter Tryd.func7, Tryd.ntmps7
  try simp only [List.append_eq, List.cons_append, List.nil_append]
  go_upto_region 1 with fail
  have hN := BlkT.new w 38 #[.int .i64 x.k, .int .i64 x.h.k, .int .i64 x.h.n, .string x.h.s, .slice x.h.p x.h.l.length x.h.c, .int .i64 x.b.k, .int .i64 x.b.n, .string x.b.s, .slice x.b.p x.b.l.length x.b.c, .bool x.f, .int .i64 x.n, .int .i64 x.g.k, .int .i64 x.g.n, .string x.g.s, .slice x.g.p x.g.l.length x.g.c]
  have gA : Gr w (w.alloc (.cells #[.int .i64 x.k, .int .i64 x.h.k, .int .i64 x.h.n, .string x.h.s, .slice x.h.p x.h.l.length x.h.c, .int .i64 x.b.k, .int .i64 x.b.n, .string x.b.s, .slice x.b.p x.b.l.length x.b.c, .bool x.f, .int .i64 x.n, .int .i64 x.g.k, .int .i64 x.g.n, .string x.g.s, .slice x.g.p x.g.l.length x.g.c] 38)) := by go_grown
  generalize w.alloc (.cells #[.int .i64 x.k, .int .i64 x.h.k, .int .i64 x.h.n, .string x.h.s, .slice x.h.p x.h.l.length x.h.c, .int .i64 x.b.k, .int .i64 x.b.n, .string x.b.s, .slice x.b.p x.b.l.length x.b.c, .bool x.f, .int .i64 x.n, .int .i64 x.g.k, .int .i64 x.g.n, .string x.g.s, .slice x.g.p x.g.l.length x.g.c] 38) = wA at *
  have HN := Lib.hid hN
  clear hN
  have c0 := HN.out.cell 0 (v := .int .i64 x.k) rfl
  have c10 := HN.out.cell 10 (v := .int .i64 x.n) rfl
  rw [Hk.out] at c0
  rw [Hkx.out] at c10
  have HA := Lib.hid gA
  have r0 := (HX.out.gr gA).cell 0 (v := .slice (some ⟨g, 0, none⟩) s.vs.length cap) rfl
  have y1 := Gr.at gA r1
  have y2 := Gr.at gA r2
  replace HCZ := Lib.hid (fun j v hv => Gr.at gA (HCZ.out j v hv))
  replace hgl : g < wA.heap.size := Nat.lt_of_lt_of_le hgl gA.size
  replace HGB := Lib.hid (HGB.out.gr gA)
  clear gA r1 r2
  go_upto_region 18 with fail
  go_quiet (fail)
  go_upto_region 20 with fail
  go_quiet (fail)
  go_upto_region 22 with (first
    | (go_at_call 29; refine (Hnext.out _ (HA.out.drewN _)).mono ?_; rintro e w2 ⟨L, p', c', th, tb, HT0⟩; obtain ⟨WD, gDW, HT⟩ : ∃ WD, Gr wA WD ∧ Told (PlS WD s.D) w WD y.V y.G rest z e w2 L p' c' th tb := ⟨_, (Gr.rfl' wA).drewN _, HT0⟩; clear HT0; obtain rfl := HT.e; replace y2 := HT.kp.cell (Gr.at gDW y2) (fun e => hgV (show y.V = g from (show g = y.V from e).symm)); replace y1 := HT.kp.cell (Gr.at gDW y1) (fun e => hgV (show y.V = g from (show g = y.V from e).symm)); replace HCZ := Lib.hid (fun j v hv => HT.kp.cell (Gr.at gDW (HCZ.out j v hv)) (fun e => hbV e)); have HTT := Lib.hid HT; clear HT)
    | fail)
  have GAD := Lib.hid (HA.out.trans gDW)
  have hgD : g < WD.heap.size := Nat.lt_of_lt_of_le hgl gDW.size
  have hgZ : g < w2.heap.size := Nat.lt_of_lt_of_le hgD HTT.out.kp.size
  replace HGB := Lib.hid (BlkT.kp (C := fun b => b = y.V) (HGB.out.gr gDW) HTT.out.kp (fun e => hgV (show y.V = g from (show g = y.V from e).symm)))
  have hD : Blk8 (w2.alloc (.cells #[.int .i64 th.k, .int .i64 th.n, .string th.s, .slice th.p th.l.length th.c, .int .i64 tb.k, .int .i64 tb.n, .string tb.s, .slice tb.p tb.l.length tb.c] 36)) w2.heap.size (.int .i64 th.k) (.int .i64 th.n) (.string th.s) (.slice th.p th.l.length th.c) (.int .i64 tb.k) (.int .i64 tb.n) (.string tb.s) (.slice tb.p tb.l.length tb.c) := heap_alloc_new _ _
  have gB : Gr w2 (w2.alloc (.cells #[.int .i64 th.k, .int .i64 th.n, .string th.s, .slice th.p th.l.length th.c, .int .i64 tb.k, .int .i64 tb.n, .string tb.s, .slice tb.p tb.l.length tb.c] 36)) := by go_grown
  have hs3 : (w2.alloc (.cells #[.int .i64 th.k, .int .i64 th.n, .string th.s, .slice th.p th.l.length th.c, .int .i64 tb.k, .int .i64 tb.n, .string tb.s, .slice tb.p tb.l.length tb.c] 36)).heap.size = w2.heap.size + 1 := World.size_alloc _ _
  generalize w2.alloc (.cells #[.int .i64 th.k, .int .i64 th.n, .string th.s, .slice th.p th.l.length th.c, .int .i64 tb.k, .int .i64 tb.n, .string tb.s, .slice tb.p tb.l.length tb.c] 36) = w3 at *
  have HD := Lib.hid hD
  have HS3 := Lib.hid hs3
  replace y1 := Gr.at gB y1
  replace y2 := Gr.at gB y2
  replace HGB := Lib.hid (HGB.out.gr gB)
  have hl0 : (((N'.length + 1 : Nat) : Int) == 0) = false := beq_eq_false_iff_ne.2 (by omega)
  have hl1 : ((N'.length : Int) + 1 == 0) = false := beq_eq_false_iff_ne.2 (by omega)
  go_upto_region 24 with fail
  have e0 : w3.cell? ⟨b, o, none⟩ = some (.int .i64 z.i) := Gr.at gB (HCZ.out 0 _ rfl)
  have e1 := Gr.at gB (HCZ.out 1 _ rfl)
  have e2 := Gr.at gB (HCZ.out 2 _ rfl)
  have e3 := Gr.at gB (HCZ.out 3 _ rfl)
  have e4 := Gr.at gB (HCZ.out 4 _ rfl)
  have e5 := Gr.at gB (HCZ.out 5 _ rfl)
  have e6 := Gr.at gB (HCZ.out 6 _ rfl)
  have e7 := Gr.at gB (HCZ.out 7 _ rfl)
  have e8 := Gr.at gB (HCZ.out 8 _ rfl)
  have e9 := Gr.at gB (HCZ.out 9 _ rfl)
  have G3 := Lib.hid gB
  clear gB hD hs3 hl0 hl1
  go_upto_region 25 with fail
  have hH := BlkT.new w3 75 #[.int .i64 z.i, .int .i64 z.h.k, .int .i64 z.h.n, .string z.h.s, .slice z.h.p z.h.l.length z.h.c, .int .i64 z.b.k, .int .i64 z.b.n, .string z.b.s, .slice z.b.p z.b.l.length z.b.c, .bool z.t]
  have gB : Gr w3 (w3.alloc (.cells #[.int .i64 z.i, .int .i64 z.h.k, .int .i64 z.h.n, .string z.h.s, .slice z.h.p z.h.l.length z.h.c, .int .i64 z.b.k, .int .i64 z.b.n, .string z.b.s, .slice z.b.p z.b.l.length z.b.c, .bool z.t] 75)) := by go_grown
  generalize w3.alloc (.cells #[.int .i64 z.i, .int .i64 z.h.k, .int .i64 z.h.n, .string z.h.s, .slice z.h.p z.h.l.length z.h.c, .int .i64 z.b.k, .int .i64 z.b.n, .string z.b.s, .slice z.b.p z.b.l.length z.b.c, .bool z.t] 75) = w4 at *
  have HH := Lib.hid hH
  clear hH e0 e1 e2 e3 e4 e5 e6 e7 e8 e9
  replace y1 := Gr.at gB y1
  replace y2 := Gr.at gB y2
  replace HGB := Lib.hid (HGB.out.gr gB)
  replace HD := Lib.hid (HD.out.gr gB)
  have G4 := Lib.hid (G3.out.trans gB)
  clear gB
  have fg := HGB.out.open_ (k * 2 + 1)
  go_upto_region 26 with fail
  obtain ⟨q, hq⟩ : ∃ q : Option Addr, q = (if y.d = 1 then some ⟨b, o, none⟩ else some ⟨b, o + 10, none⟩ : Option Addr) := ⟨_, rfl⟩
  rw [← hq]
  have hqn : N' ≠ [] → q = some ⟨b, o + 10, none⟩ := fun hn => by
    have := List.length_pos_iff.2 hn
    rw [hq, if_neg (by omega)]
  have HE := Lib.hid (hR.out _ _ _ _ _ _ (GAD.out) HTT.out.v HTT.out.l HTT.out.kp HTT.out.r G4.out q hqn)
  have kG : Kp (fun x => x = g) w4 (w4.setCell ⟨g, k * 2 + 1, none⟩ (.slice q N'.length (y.d - 1))) := Kp.set (C := fun x => x = g) rfl
  generalize w4.setCell ⟨g, k * 2 + 1, none⟩ (.slice q N'.length (y.d - 1)) = w5 at *
  have hs3 := HS3.out
  have hD1 := HD.out.kp kG (by omega)
  have hH1 := HH.out.kp kG (by omega)
  have KG := Lib.hid ((Kp.of_gr G4.out : Kp (fun x => x = g) w2 w4).trans kG)
  have HTh := Lib.hid (And.intro (tm_kp HTT.out.h1.1 HTT.out.h2.1 (fun x hx e => by subst e; omega) KG.out) (tm_kp HTT.out.h1.2.1 HTT.out.h2.2 (fun x hx e => by subst e; omega) KG.out))
  have HZz := Lib.hid (And.intro (tm_kp (tm_kp (Tm.In_below gDW (Tm.In_below HA.out HZ.out.1)) HZ.out.2.2.1 (fun x hx e => hx e) HTT.out.kp) HZ.out.2.2.2.2.1 (fun x hx e => hx e) KG.out) (tm_kp (tm_kp (Tm.In_below gDW (Tm.In_below HA.out HZ.out.2.1)) HZ.out.2.2.2.1 (fun x hx e => hx e) HTT.out.kp) HZ.out.2.2.2.2.2 (fun x hx e => hx e) KG.out))
  have HEr := Lib.hid HTT.out.h1.2.2
  have Hs1 := Lib.hid (fun W (g : Gr w5 W) => show Calls Tryd.prog 16 #[.agg #[.int .i64 th.k, .int .i64 th.n, .string th.s, .slice th.p th.l.length th.c], .agg #[.int .i64 z.h.k, .int .i64 z.h.n, .string z.h.s, .slice z.h.p z.h.l.length z.h.c]] W (Ret (.bool true) W) from by
    have := same_calls (t := th) (u := z.h) (Tm.In_below g HTh.out.1) (Tm.In_below g HZz.out.1)
    rw [HEr.out.1, T.same_self] at this
    exact this)
  have Hs2 := Lib.hid (fun W (g : Gr w5 W) => show Calls Tryd.prog 16 #[.agg #[.int .i64 tb.k, .int .i64 tb.n, .string tb.s, .slice tb.p tb.l.length tb.c], .agg #[.int .i64 z.b.k, .int .i64 z.b.n, .string z.b.s, .slice z.b.p z.b.l.length z.b.c]] W (Ret (.bool true) W) from by
    have := same_calls (t := tb) (u := z.b) (Tm.In_below g HTh.out.2) (Tm.In_below g HZz.out.2)
    rw [HEr.out.2, T.same_self] at this
    exact this)
  obtain ⟨p0, p1, p2, p3, p4, p5, p6, p7⟩ := hD1.cells
  have z0 := hH1.cell 0 (v := .int .i64 z.i) rfl
  have z1 := hH1.cell 1 (v := .int .i64 z.h.k) rfl
  have z2 := hH1.cell 2 (v := .int .i64 z.h.n) rfl
  have z3 := hH1.cell 3 (v := .string z.h.s) rfl
  have z4 := hH1.cell 4 (v := .slice z.h.p z.h.l.length z.h.c) rfl
  have z5 := hH1.cell 5 (v := .int .i64 z.b.k) rfl
  have z6 := hH1.cell 6 (v := .int .i64 z.b.n) rfl
  have z7 := hH1.cell 7 (v := .string z.b.s) rfl
  have z8 := hH1.cell 8 (v := .slice z.b.p z.b.l.length z.b.c) rfl
  have hbe : (z.i == z.i) = true := by simp
  clear hD1 hH1 kG y1 y2 fg hq hqn r0 c0 c10 hs3
  go_wp2_with (first
    | (go_at_call 16; replace p0 := p0; refine (Hs1.out w5 (Gr.rfl' _)).mono ?_; rintro e w6 ⟨rfl, g6⟩; replace g6 : Gr w5 w6 := g6; replace p4 := Gr.at g6 p4; replace p5 := Gr.at g6 p5; replace p6 := Gr.at g6 p6; replace p7 := Gr.at g6 p7; replace z5 := Gr.at g6 z5; replace z6 := Gr.at g6 z6; replace z7 := Gr.at g6 z7; replace z8 := Gr.at g6 z8; clear p0 p1 p2 p3 z0 z1 z2 z3 z4)
    | (go_at_call 16; replace g6 := g6; refine (Hs2.out _ g6).mono ?_; rintro e w7 ⟨rfl, g7⟩; replace g7 : Gr w6 w7 := g7; have G7 := Lib.hid (g6.trans g7); clear g6 g7)
    | fail)
  exact HE.out _ G7.out
end Go.Proofs.YtjdoflfdlhpbmaaDoor

namespace Go.Proofs.YtjdoflfdlhpbmaaDoor
open Go.RowKit Go.Maps Go.Lib

theorem get_same {st : BSt} {R : List HrT} {id : Int} {w w' : World} {e : Ending} (ha : Agree st R) (h : RetGetP st id w e w') : RetRG (getR id R) w e w' := by
  obtain ⟨hg, th, tb, h1, h2, h3⟩ := h
  refine ⟨hg, th, tb, h1, h2, ?_⟩
  rcases h3 with ⟨hn, he, hh, hb⟩ | ⟨k0, L, x, hw, hp, hx, hi, he, hh, hb⟩
  · have hno : getR id R = none := by
      rw [getR, List.find?_eq_none]
      intro x hx h4
      rw [Bool.and_eq_true, decide_eq_true_eq] at h4
      exact ha.absent hn x hx h4
    rw [hno]
    exact ⟨he, hh, hb⟩
  · obtain ⟨y, hy, hyi, hyt, hyk⟩ := (ha.wh id k0).1 hw
    have hs : getR id R = some y := by
      cases hf : getR id R with
      | none =>
        rw [getR, List.find?_eq_none] at hf
        exact absurd (by simp [hyi, hyt]) (hf y hy)
      | some z =>
        have hz := List.mem_of_find?_eq_some hf
        have hzp := List.find?_some hf
        rw [Bool.and_eq_true, decide_eq_true_eq] at hzp
        rw [ha.uniq hz hy (hzp.1.trans hyi.symm)]
    rw [hs]
    have hxy : x = y.d := by
      have h9 := ha.pr k0
      rw [hp] at h9
      split at h9
      · cases h9
        obtain ⟨z, hz, rfl⟩ := List.mem_map.1 hx
        have hz2 := (List.mem_filter.1 hz).1
        rw [ha.uniq hz2 hy (Eq.trans (show z.i = id from hi) hyi.symm)]
      · cases h9
    subst hxy
    exact ⟨he, hh, hb⟩
/-- The program's Get answers as the document's. -/
theorem getP_calls (S : Nat → Prop) (B M1 M2 : Nat) (va : Value) (st : BSt) (R : List HrT) (id : Int) (w : World) (hB : BaseG S w B M1 M2 va st) (ha : Agree st R) (hid : In64 id) :
    Calls Tryd.prog 24 #[.pointer (some ⟨B, 0, none⟩), .int .i64 id] w (RetRG (getR id R) w) := by
  cases hw : st.wh id with
  | none => exact (getP_none S B M1 M2 va st id w hB hid hw).mono fun e w' h => get_same ha h
  | some k =>
    obtain ⟨s, n⟩ := k
    obtain ⟨y, hy, hyi, hyt, hyk⟩ := (ha.wh id (s, n)).1 hw
    have hp : st.pr (s, n) = some ((R.filter (HrT.of (s, n))).map HrT.d) := by
      rw [ha.pr, if_pos]
      exact List.any_eq_true.2 ⟨y, hy, by simp [hyk]⟩
    exact (getP_some S B M1 M2 va st id w hB hid s n hw _ hp ⟨y.d, List.mem_map.2 ⟨y, List.mem_filter.2 ⟨hy, by simp [HrT.of, hyt, hyk]⟩, rfl⟩, hyi⟩).mono fun e w' h => get_same ha h
/-- Both answers, in the same words. -/
theorem retRG_two {r : Option HrT} {w w' : World} {e : Ending} (h : RetRG r w e w') : ∃ (a b : Tm) (E : Int), e = .returned (.tuple #[.agg #[.int .i64 a.k, .int .i64 a.n, .string a.s, .slice a.p a.l.length a.c, .int .i64 b.k, .int .i64 b.n, .string b.s, .slice b.p b.l.length b.c], .int .i64 E]) ∧ Gr w w' ∧ a.In w' ∧ b.In w' ∧ E = (if r.isSome then 0 else 8) ∧ a.erase = r.elim zeroTm.erase (·.h) ∧ b.erase = r.elim zeroTm.erase (·.b) := by
  obtain ⟨hg, a, b, ha, hb, h1⟩ := h
  cases r with
  | none =>
    obtain ⟨rfl, rfl, rfl⟩ := h1
    exact ⟨zeroTm, zeroTm, 8, by rw [clVal_four], hg, ha, hb, rfl, rfl, rfl⟩
  | some x =>
    obtain ⟨rfl, h2, h3⟩ := h1
    exact ⟨a, b, 0, by rw [clVal_four], hg, ha, hb, rfl, h2, h3⟩

set_option maxHeartbeats 8000000 in
set_option maxRecDepth 100000 in
theorem based_get (lo n : Nat) (w : World) (s : PlaySt) (x : Stp) (h : PlOk lo n w s) (hx : StpOk lo w x) (hk : x.k = 2) (hn : n ≤ 4194304) :
    Calls Tryd.prog 7 #[.pointer (some ⟨s.B, 0, none⟩), .pointer (some ⟨s.R, 0, none⟩), .pointer (some ⟨s.X, 0, none⟩), x.val] w (RetPl lo n s w) := by
  have hR : Hid (∀ w', Gr w w' → RetPl lo n s w (.returned (.bool true)) w') := fun w' h1 => h.same h1
  have HgP := Lib.hid (fun W (g : Gr w W) => getP_calls (PlS W s.D) s.B s.M1 s.M2 s.va s.st (s.RL.map Hr.er) x.n W (h.m.gr g).b h.a hx.n)
  have HgR := Lib.hid (fun W (g : Gr w W) => rGet_calls (PlS W s.D) s.R s.rp s.rc s.RL x.n W ⟨(h.m.gr g).r, (h.m.gr g).rl, fun hh => hh.2 (.inr (.inl rfl))⟩ (by have := h.nr; omega) hx.n)
  generalize RetPl lo n s w = Q at hR ⊢
  generalize getR x.n (s.RL.map Hr.er) = r at *
  have Hk := Lib.hid hk
  clear h hx hk hn
  rw [Stp.val]
  go_enter Tryd.func7, Tryd.ntmps7
  try simp only [List.append_eq, List.cons_append, List.nil_append]
  go_upto_region 1 with fail
  have hN := BlkT.new w 38 #[.int .i64 x.k, .int .i64 x.h.k, .int .i64 x.h.n, .string x.h.s, .slice x.h.p x.h.l.length x.h.c, .int .i64 x.b.k, .int .i64 x.b.n, .string x.b.s, .slice x.b.p x.b.l.length x.b.c, .bool x.f, .int .i64 x.n, .int .i64 x.g.k, .int .i64 x.g.n, .string x.g.s, .slice x.g.p x.g.l.length x.g.c]
  have gA : Gr w (w.alloc (.cells #[.int .i64 x.k, .int .i64 x.h.k, .int .i64 x.h.n, .string x.h.s, .slice x.h.p x.h.l.length x.h.c, .int .i64 x.b.k, .int .i64 x.b.n, .string x.b.s, .slice x.b.p x.b.l.length x.b.c, .bool x.f, .int .i64 x.n, .int .i64 x.g.k, .int .i64 x.g.n, .string x.g.s, .slice x.g.p x.g.l.length x.g.c] 38)) := by go_grown
  generalize w.alloc (.cells #[.int .i64 x.k, .int .i64 x.h.k, .int .i64 x.h.n, .string x.h.s, .slice x.h.p x.h.l.length x.h.c, .int .i64 x.b.k, .int .i64 x.b.n, .string x.b.s, .slice x.b.p x.b.l.length x.b.c, .bool x.f, .int .i64 x.n, .int .i64 x.g.k, .int .i64 x.g.n, .string x.g.s, .slice x.g.p x.g.l.length x.g.c] 38) = wA at *
  have HN := Lib.hid hN
  clear hN
  have c0 := HN.out.cell 0 (v := .int .i64 x.k) rfl
  have c10 := HN.out.cell 10 (v := .int .i64 x.n) rfl
  rw [Hk.out] at c0
  go_upto_region 9 with fail
  go_upto_region 10 with (first
    | (go_at_call 24; refine (HgP.out _ gA).mono ?_; rintro e w2 hr2; obtain ⟨a1, b1, E, rfl, hg2, ha1, hb1, hE, he1, he2⟩ := retRG_two hr2; have H1 := Lib.hid (And.intro ha1 (And.intro hb1 (And.intro he1 he2))); have HE := Lib.hid hE; replace c10 := Gr.at hg2 c10; have G2 := Lib.hid (gA.trans hg2); clear hr2 ha1 hb1 he1 he2 hE hg2)
    | fail)
  have hD : Blk8 (w2.alloc (.cells #[.int .i64 a1.k, .int .i64 a1.n, .string a1.s, .slice a1.p a1.l.length a1.c, .int .i64 b1.k, .int .i64 b1.n, .string b1.s, .slice b1.p b1.l.length b1.c] 36)) w2.heap.size (.int .i64 a1.k) (.int .i64 a1.n) (.string a1.s) (.slice a1.p a1.l.length a1.c) (.int .i64 b1.k) (.int .i64 b1.n) (.string b1.s) (.slice b1.p b1.l.length b1.c) := heap_alloc_new _ _
  have gB : Gr w2 (w2.alloc (.cells #[.int .i64 a1.k, .int .i64 a1.n, .string a1.s, .slice a1.p a1.l.length a1.c, .int .i64 b1.k, .int .i64 b1.n, .string b1.s, .slice b1.p b1.l.length b1.c] 36)) := by go_grown
  generalize w2.alloc (.cells #[.int .i64 a1.k, .int .i64 a1.n, .string a1.s, .slice a1.p a1.l.length a1.c, .int .i64 b1.k, .int .i64 b1.n, .string b1.s, .slice b1.p b1.l.length b1.c] 36) = w3 at *
  have G3 := Lib.hid (G2.out.trans gB)
  replace c10 := Gr.at gB c10
  replace H1 := Lib.hid (And.intro (Tm.In_below gB H1.out.1) (And.intro (Tm.In_below gB H1.out.2.1) H1.out.2.2))
  clear gB
  have HD := Lib.hid hD
  clear hD
  go_upto_region 11 with (first
    | (go_at_call 25; refine (HgR.out _ G3.out).mono ?_; rintro e w4 hr4; obtain ⟨a2, b2, E2, rfl, hg4, ha2, hb2, hE2, he3, he4⟩ := retRG_two hr4; have H2 := Lib.hid (And.intro ha2 (And.intro hb2 (And.intro he3 he4))); obtain rfl : E2 = E := hE2.trans HE.out.symm; have G4 := Lib.hid (G3.out.trans hg4); replace H1 := Lib.hid (And.intro (Tm.In_below hg4 H1.out.1) (And.intro (Tm.In_below hg4 H1.out.2.1) H1.out.2.2)); replace HD := Lib.hid (HD.out.gr hg4); clear hr4 ha2 hb2 he3 he4 hE2 hg4)
    | fail)
  have hD2 : Blk8 (w4.alloc (.cells #[.int .i64 a2.k, .int .i64 a2.n, .string a2.s, .slice a2.p a2.l.length a2.c, .int .i64 b2.k, .int .i64 b2.n, .string b2.s, .slice b2.p b2.l.length b2.c] 36)) w4.heap.size (.int .i64 a2.k) (.int .i64 a2.n) (.string a2.s) (.slice a2.p a2.l.length a2.c) (.int .i64 b2.k) (.int .i64 b2.n) (.string b2.s) (.slice b2.p b2.l.length b2.c) := heap_alloc_new _ _
  have gB : Gr w4 (w4.alloc (.cells #[.int .i64 a2.k, .int .i64 a2.n, .string a2.s, .slice a2.p a2.l.length a2.c, .int .i64 b2.k, .int .i64 b2.n, .string b2.s, .slice b2.p b2.l.length b2.c] 36)) := by go_grown
  generalize w4.alloc (.cells #[.int .i64 a2.k, .int .i64 a2.n, .string a2.s, .slice a2.p a2.l.length a2.c, .int .i64 b2.k, .int .i64 b2.n, .string b2.s, .slice b2.p b2.l.length b2.c] 36) = w5 at *
  have G5 := Lib.hid (G4.out.trans gB)
  have hD1 := HD.out.gr gB
  obtain ⟨p0, p1, p2, p3, p4, p5, p6, p7⟩ := hD1.cells
  obtain ⟨q0, q1, q2, q3, q4, q5, q6, q7⟩ := hD2.cells
  have Hs1 := Lib.hid (fun W (g : Gr w5 W) => show Calls Tryd.prog 16 #[.agg #[.int .i64 a1.k, .int .i64 a1.n, .string a1.s, .slice a1.p a1.l.length a1.c], .agg #[.int .i64 a2.k, .int .i64 a2.n, .string a2.s, .slice a2.p a2.l.length a2.c]] W (Ret (.bool true) W) from by
    have := same_calls (t := a1) (u := a2) (Tm.In_below (gB.trans g) H1.out.1) (Tm.In_below (gB.trans g) H2.out.1)
    rw [H1.out.2.2.1, H2.out.2.2.1, T.same_self] at this
    exact this)
  have Hs2 := Lib.hid (fun W (g : Gr w5 W) => show Calls Tryd.prog 16 #[.agg #[.int .i64 b1.k, .int .i64 b1.n, .string b1.s, .slice b1.p b1.l.length b1.c], .agg #[.int .i64 b2.k, .int .i64 b2.n, .string b2.s, .slice b2.p b2.l.length b2.c]] W (Ret (.bool true) W) from by
    have := same_calls (t := b1) (u := b2) (Tm.In_below (gB.trans g) H1.out.2.1) (Tm.In_below (gB.trans g) H2.out.2.1)
    rw [H1.out.2.2.2, H2.out.2.2.2, T.same_self] at this
    exact this)
  clear gB hD1 hD2
  have hbe : (E2 == E2) = true := by simp
  go_wp2_with (first
    | (go_at_call 16; replace p0 := p0; refine (Hs1.out w5 (Gr.rfl' _)).mono ?_; rintro e w6 ⟨rfl, g6⟩; replace g6 : Gr w5 w6 := g6; replace p4 := Gr.at g6 p4; replace p5 := Gr.at g6 p5; replace p6 := Gr.at g6 p6; replace p7 := Gr.at g6 p7; replace q4 := Gr.at g6 q4; replace q5 := Gr.at g6 q5; replace q6 := Gr.at g6 q6; replace q7 := Gr.at g6 q7; clear p0 p1 p2 p3 q0 q1 q2 q3)
    | (go_at_call 16; replace g6 := g6; refine (Hs2.out _ g6).mono ?_; rintro e w7 ⟨rfl, g7⟩; replace g7 : Gr w6 w7 := g7; have G7 := Lib.hid (G5.out.trans (g6.trans g7)); clear g6 g7)
    | fail)
  exact hR.out _ G7.out
end Go.Proofs.YtjdoflfdlhpbmaaDoor

namespace Go.Proofs.YtjdoflfdlhpbmaaDoor
open Go.RowKit Go.Maps Go.Lib

theorem Agree.known {st : BSt} {R : List HrT} (h : Agree st R) (k : ByteArray × Int) : (st.pr k).isSome = anyOf k R := by
  rw [h.pr]
  cases anyOf k R <;> rfl

set_option maxHeartbeats 8000000 in
set_option maxRecDepth 100000 in
theorem based_known (lo n : Nat) (w : World) (s : PlaySt) (x : Stp) (h : PlOk lo n w s) (hx : StpOk lo w x) (hgs : x.g.s.size ≤ 140737488351232) (hk : x.k = 3) (hn : n ≤ 4194304) :
    Calls Tryd.prog 7 #[.pointer (some ⟨s.B, 0, none⟩), .pointer (some ⟨s.R, 0, none⟩), .pointer (some ⟨s.X, 0, none⟩), x.val] w (RetPl lo n s w) := by
  have hR : Hid (∀ w', Gr w w' → RetPl lo n s w (.returned (.bool true)) w') := fun w' h1 => h.same h1
  obtain ⟨kb, hkb⟩ : ∃ kb, knownR x.g.s.toList x.n (s.RL.map Hr.er) = kb := ⟨_, rfl⟩
  have hkp : (s.st.pr (x.g.s, x.n)).isSome = kb := by
    rw [h.a.known, ← hkb, known_any fun z hz => by
      obtain ⟨y, hy, rfl⟩ := List.mem_map.1 hz
      exact h.c y hy]
  have HkP := Lib.hid (fun W (g : Gr w W) => show Calls Tryd.prog 26 #[.pointer (some ⟨s.B, 0, none⟩), .string x.g.s, .int .i64 x.n] W (Ret (.bool kb) W) from by
    have := knownP_calls (PlS W s.D) s.B s.M1 s.M2 s.va s.st x.g.s x.n W (h.m.gr g).b hgs hx.n
    rw [hkp] at this
    exact this)
  have HkR := Lib.hid (fun W (g : Gr w W) => show Calls Tryd.prog 27 #[.pointer (some ⟨s.R, 0, none⟩), .string x.g.s, .int .i64 x.n] W (Ret (.bool kb) W) from by
    have := rKnown_calls (PlS W s.D) s.R s.rp s.rc s.RL x.g.s x.n W ⟨(h.m.gr g).r, (h.m.gr g).rl, fun hh => hh.2 (.inr (.inl rfl))⟩ (by have := h.nr; omega) hx.n
    rw [hkb] at this
    exact this)
  generalize RetPl lo n s w = Q at hR ⊢
  have Hk := Lib.hid hk
  clear h hx hk hn hkb hkp hgs
  rw [Stp.val]
  go_enter Tryd.func7, Tryd.ntmps7
  try simp only [List.append_eq, List.cons_append, List.nil_append]
  go_upto_region 1 with fail
  have hN := BlkT.new w 38 #[.int .i64 x.k, .int .i64 x.h.k, .int .i64 x.h.n, .string x.h.s, .slice x.h.p x.h.l.length x.h.c, .int .i64 x.b.k, .int .i64 x.b.n, .string x.b.s, .slice x.b.p x.b.l.length x.b.c, .bool x.f, .int .i64 x.n, .int .i64 x.g.k, .int .i64 x.g.n, .string x.g.s, .slice x.g.p x.g.l.length x.g.c]
  have gA : Gr w (w.alloc (.cells #[.int .i64 x.k, .int .i64 x.h.k, .int .i64 x.h.n, .string x.h.s, .slice x.h.p x.h.l.length x.h.c, .int .i64 x.b.k, .int .i64 x.b.n, .string x.b.s, .slice x.b.p x.b.l.length x.b.c, .bool x.f, .int .i64 x.n, .int .i64 x.g.k, .int .i64 x.g.n, .string x.g.s, .slice x.g.p x.g.l.length x.g.c] 38)) := by go_grown
  generalize w.alloc (.cells #[.int .i64 x.k, .int .i64 x.h.k, .int .i64 x.h.n, .string x.h.s, .slice x.h.p x.h.l.length x.h.c, .int .i64 x.b.k, .int .i64 x.b.n, .string x.b.s, .slice x.b.p x.b.l.length x.b.c, .bool x.f, .int .i64 x.n, .int .i64 x.g.k, .int .i64 x.g.n, .string x.g.s, .slice x.g.p x.g.l.length x.g.c] 38) = wA at *
  have HN := Lib.hid hN
  clear hN
  have c0 := HN.out.cell 0 (v := .int .i64 x.k) rfl
  have c10 := HN.out.cell 10 (v := .int .i64 x.n) rfl
  have c13 := HN.out.cell 13 (v := .string x.g.s) rfl
  rw [Hk.out] at c0
  have HA := Lib.hid gA
  clear gA HN
  go_upto_region 13 with fail
  refine wp_region_rely_tail 15 [fx (.pointer (some ⟨s.B, 0, none⟩)), fx (.pointer (some ⟨w.heap.size, 11, none⟩)), fx (.pointer (some ⟨w.heap.size, 13, none⟩)), fx (.string x.g.s), fx (.pointer (some ⟨w.heap.size, 10, none⟩)), fx (.int .i64 x.n), fx (.bool kb), fx (.pointer (some ⟨s.R, 0, none⟩)), fx (.pointer (some ⟨w.heap.size, 11, none⟩)), fx (.pointer (some ⟨w.heap.size, 13, none⟩)), fx (.string x.g.s), fx (.pointer (some ⟨w.heap.size, 10, none⟩)), fx (.int .i64 x.n), fx (.bool kb), fx (.bool true)]
    (by kernel_rfl) (by kernel_rfl) (by decide) (by repeat (first | exact Stable.nil | refine Stable.fix ?_)) ?_ ?_
  · refine ⟨?_, ?_, ?_, ?_, ?_, ?_, ?a6, ?_, ?_, ?_, ?_, ?_, ?_, ?a13, ?a14, trivial⟩
    case a6 =>
      intro fr wz hg hold
      have h0 : fr.tmps[0]?.getD undef = .pointer (some ⟨s.B, 0, none⟩) := hold 0 rfl
      have h1 : fr.tmps[1]?.getD undef = .pointer (some ⟨s.R, 0, none⟩) := hold 1 rfl
      have h7 : fr.tmps[7]?.getD undef = .pointer (some ⟨w.heap.size, 0, none⟩) := hold 7 rfl
      have y10 := Gr.at hg c10
      have y13 := Gr.at hg c13
      have Hg := Lib.hid hg
      clear hold c10 c13 c0
      simp [predsImp, Region.binds, dstAt, fx]
      intros
      rename_i K hK
      go_simp
      refine (HkP.out _ (HA.out.trans Hg.out)).mono ?_
      rintro e9 w9 ⟨rfl, k1⟩
      exact hK _ _ rfl k1
    case a13 =>
      intro fr wz hg hold
      have h0 : fr.tmps[0]?.getD undef = .pointer (some ⟨s.B, 0, none⟩) := hold 0 rfl
      have h1 : fr.tmps[1]?.getD undef = .pointer (some ⟨s.R, 0, none⟩) := hold 1 rfl
      have h7 : fr.tmps[7]?.getD undef = .pointer (some ⟨w.heap.size, 0, none⟩) := hold 7 rfl
      have y10 := Gr.at hg c10
      have y13 := Gr.at hg c13
      have Hg := Lib.hid hg
      clear hold c10 c13 c0
      simp [predsImp, Region.binds, dstAt, fx]
      intros
      rename_i K hK
      go_simp
      refine (HkR.out _ (HA.out.trans Hg.out)).mono ?_
      rintro e9 w9 ⟨rfl, k1⟩
      exact hK _ _ rfl k1
    case a14 =>
      intro fr wz hg hold
      have h0 : fr.tmps[0]?.getD undef = .pointer (some ⟨s.B, 0, none⟩) := hold 0 rfl
      have h1 : fr.tmps[1]?.getD undef = .pointer (some ⟨s.R, 0, none⟩) := hold 1 rfl
      have h7 : fr.tmps[7]?.getD undef = .pointer (some ⟨w.heap.size, 0, none⟩) := hold 7 rfl
      have y10 := Gr.at hg c10
      have y13 := Gr.at hg c13
      have Hg := Lib.hid hg
      clear hold c10 c13 c0
      simp [predsImp, Region.binds, dstAt, fx]
      intros
      rename_i K hK
      go_simp
      exact hK _ _ (by simp) (Gr.rfl' _)
    all_goals
      intro fr wz hg hold
      have h0 : fr.tmps[0]?.getD undef = .pointer (some ⟨s.B, 0, none⟩) := hold 0 rfl
      have h1 : fr.tmps[1]?.getD undef = .pointer (some ⟨s.R, 0, none⟩) := hold 1 rfl
      have h7 : fr.tmps[7]?.getD undef = .pointer (some ⟨w.heap.size, 0, none⟩) := hold 7 rfl
      have y10 := Gr.at hg c10
      have y13 := Gr.at hg c13
      have Hg := Lib.hid hg
      clear hold c10 c13 c0
      simp [predsImp, Region.binds, dstAt, fx]
      intros
      first
        | (rw [if_pos (by simp [*])]
           intro K hK)
        | (rename_i K hK)
      go_simp
    all_goals exact hK _ _ rfl (Gr.rfl' _)
  · intro w5 hg
    rintro _ rfl _ rfl _ rfl _ rfl _ rfl _ rfl _ rfl _ rfl _ rfl _ rfl _ rfl _ rfl _ rfl _ rfl _ rfl
    simp only [finAll, Act.put, List.setIfInBounds_toArray, List.set_cons_succ, List.set_cons_zero, List.drop_succ_cons, List.drop_zero, List.take_zero]
    have HE := Lib.hid (hR.out _ (HA.out.trans hg))
    clear c0 c10 c13 hg
    go_wp2_with fail
    exact HE.out
end Go.Proofs.YtjdoflfdlhpbmaaDoor
