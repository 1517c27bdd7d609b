/-
  hornref.Reduce: the walk.
  hornlaw.rows, and the law on Check and Reduce.
-/
import Derived.Test.YtbapmokbkjmdcaaDR24
namespace Go.Proofs.Ytbapmokbkjmdcaa
open Go.RowKit Go.Maps Go.Lib

/-- What the document's Reduce says. -/
def RetRR (x : Pb) (w : World) (e : Ending) (w' : World) : Prop := Gr w w' ∧
  ((RedNo x.cons x.D ∧ e = .returned (.tuple #[.slice none 0 0, .bool false])) ∨
   ∃ E p c, RedOk x.cons x.D E ∧ e = .returned (.tuple #[.slice p E.length c, .bool true]) ∧ RowsAt w' p E ∧ E.length ≤ c ∧ c ≤ 9223372036854775807)
theorem keepR_more {C : List Con} {c : Con} {D : List (List Int)} {v : Nat} {d : List Int} : d.filter (keepR (C ++ [c]) D v) = (d.filter (keepR C D v)).filter (fun x => decide (x ∈ supR D c v)) := by
  rw [List.filter_filter]
  refine List.filter_congr fun x _ => ?_
  rw [keepR, List.all_append, keepR, Bool.and_comm]; simp
theorem rowOk_own {B0 B : Nat} {w : World} {v : Value} {L : List Int} (h : IntsOwn w B v L) (hn : ∀ y ∈ L, Near y) : RowOk B0 w v L := by
  obtain ⟨p, c, rfl⟩ := h.form
  have h1 := (h.sl fun y hy => by have := hn y hy; exact ⟨by have := this.1; omega, by have := this.2; omega⟩).2
  refine ⟨p, c, rfl, h1, fun a ha hd => .inr ?_⟩
  exact (ownsRow_type h (g := a.block) (by rw [ha]; rfl)).1
theorem rowOk_in {w W : World} {q : Option Addr} {c : Nat} {L : List Int} (h : IntSl w q c L) (hg : Gr w W) : RowOk w.heap.size W (.slice q L.length c) L :=
  ⟨q, c, rfl, h.mono hg, fun a ha hd => .inl (by
    obtain ⟨b, o, h1, h2, _⟩ := h.2.2.2.resolve_left hd
    rw [ha] at h1; cases h1; exact h2)⟩
theorem filter_near {l : List Int} {f : Int → Bool} (h : ∀ y ∈ l, Near y) : ∀ y ∈ l.filter f, Near y := fun y hy => h y (List.mem_filter.1 hy).1

set_option maxHeartbeats 16000000 in
set_option maxRecDepth 100000 in
theorem rreduce_calls (x : Pb) (w : World) (hx : x.In w) (hck : checkP x.D x.cons = 0) : Calls Try.prog 12 #[x.val] w (RetRR x w) := by
  have hR1 : Hid (∀ w', RedNo x.cons x.D → Gr w w' → RetRR x w (.returned (.tuple #[.slice none 0 0, .bool false])) w') := fun w' h1 h2 => ⟨h2, .inl ⟨h1, rfl⟩⟩
  have hR2 : Hid (∀ w' (E : List (List Int)) p c, E.length = x.D.length → RedOk x.cons x.D E → RowsAt w' p E → x.D.length ≤ c ∧ c ≤ 9223372036854775807 → Gr w w' → RetRR x w (.returned (.tuple #[.slice p x.D.length c, .bool true])) w') := fun w' E p c h0 h1 h2 h3 h4 => ⟨h4, .inr ⟨E, p, c, h1, by rw [h0], h2, by rw [h0]; exact h3.1, h3.2⟩⟩
  generalize RetRR x w = Q at hR1 hR2 ⊢
  obtain ⟨c1, c2, c3, c4, c5⟩ := check_zero hck
  have HX := Lib.hid hx
  have HOKD := Lib.hid c2
  have HFew := Lib.hid c3
  have HNear0 : Hid (∀ d ∈ x.D, ∀ y ∈ d, Near y) := fun d hd => (okDom_rise (c1 d hd)).2
  have HShort0 := Lib.hid c5
  have hlc := hx.lenD.1
  have hcc := hx.lenD.2
  have hlc2 := hx.lenC.1
  have hcc2 := hx.lenC.2
  clear c1 c2 c4 c5 hck hx
  rw [show x.val = .agg #[.slice x.dp x.D.length x.dc, .slice x.cp x.C.length x.cc] from rfl]
  go_enter Try.func12, Try.ntmps12
  try simp only [List.append_eq, List.cons_append, List.nil_append]
  go_upto_region 1 with fail
  have hB := BlkT.new w 25 #[.slice x.dp x.D.length x.dc, .slice x.cp x.C.length x.cc]
  have gA : Gr w (w.alloc (.cells #[.slice x.dp x.D.length x.dc, .slice x.cp x.C.length x.cc] 25)) := by go_grown
  generalize hwA : w.alloc (.cells #[.slice x.dp x.D.length x.dc, .slice x.cp x.C.length x.cc] 25) = wA at *
  clear hwA
  have b0 := hB.cell 0 (v := .slice x.dp x.D.length x.dc) rfl
  have b1 := hB.cell 1 (v := .slice x.cp x.C.length x.cc) rfl
  have HB1 := Lib.hid b1
  have HG := Lib.hid gA
  clear hB gA
  have HST := Lib.hid (HX.out.rows.mono HG.out)
  have HLD := Lib.hid (And.intro hlc hcc)
  obtain ⟨n, hn⟩ : ∃ n, x.D.length = n := ⟨_, rfl⟩
  have HNN := Lib.hid hn
  rw [hn] at hR2 hlc HLD b0 HOKD HFew c3 ⊢
  clear hn
  go_wp2_with fail
  clear b0 b1
  go_loopg [4, 5, 6, 7, 8, 9, 10, 11, 12] (totD x.D) (fun k dv nv lv vv llv iv sv bv jv wr => ∃ (D : List (List Int)) (p : Option Addr) (c : Nat), k = totD D ∧ dv = .slice p n c ∧ (n ≤ c ∧ c ≤ 9223372036854775807) ∧ Hid (D.length = n) ∧ Hid (RowsAt wr p D) ∧ Hid (InvR x.cons x.D D) ∧ Hid (∀ d ∈ D, ∀ y ∈ d, Near y) ∧ Hid (∀ d ∈ D, d.length ≤ 100) ∧ Hid (Gr wA wr))
  case atStart => exact ⟨x.D, x.dp, x.dc, rfl, rfl, HLD.out, HNN.out, HST, InvR.start _ _, HNear0, HShort0, Gr.rfl' _⟩
  case round =>
    clear HST HLD HNear0 HShort0 hlc hcc
    obtain ⟨D, p, c, rfl, rfl, hlc, HDL, hrw, hinv, HNear, HShort, gr⟩ := hrel
    have hlc1 := hlc.1
    have hcc1 := hlc.2
    have HLC := Lib.hid hlc
    clear hlc
    have HOKc : Hid (∀ y ∈ x.C, y.con.ok D.length = true) := fun y hy => by rw [HDL.out]; exact HOKD.out _ (List.mem_map.2 ⟨y, hy, rfl⟩)
    have HOKD2 : Hid (∀ c ∈ x.cons, c.ok D.length = true) := fun c hc => by rw [HDL.out]; exact HOKD.out c hc
    have HCT : Hid (∀ (i : Nat) (y : Cn), x.C[i]? = some y → x.cons.take (i + 1) = x.cons.take i ++ [y.con]) := fun i y hy => by
      rw [List.take_add_one, show x.cons[i]? = some y.con by rw [Pb.cons, List.getElem?_map, hy]; rfl]; rfl
    have HCTL : Hid (x.cons.take x.C.length = x.cons) := List.take_of_length_le (by rw [Pb.cons, List.length_map]; exact Nat.le_refl _)
    generalize wr = wR at *
    go_wp2_with fail
    go_loopg [5, 6, 7, 8, 9, 10, 11, 12] n (fun k nv lv vv llv iv sv bv jv wr => ∃ (j : Nat) (u : Value), j ≤ n ∧ k = n - j ∧ u = nv ∧ lv = .int .i64 ((leftR x.cons D j : Nat) : Int) ∧ vv = .int .i64 ((j : Nat) : Int) ∧ Hid (NextR wR.heap.size u ((roundR x.cons D).take j) wr) ∧ Hid (Gr wR wr) ∧ Hid (∀ v, v < j → rowR x.cons D v ≠ []))
    case atStart => exact ⟨0, _, Nat.zero_le _, rfl, rfl, rfl, rfl, NextR.nil _ _, Gr.rfl' _, fun v hv => by omega⟩
    case round =>
      obtain ⟨j, u, hj, rfl, rfl, rfl, rfl, hnx, gw, hne⟩ := hrel
      by_cases hjn : j < n
      case neg =>
        obtain rfl : j = n := by omega
        have hnx := hnx.out
        rw [List.take_of_length_le (by rw [roundR_len, HDL.out]; exact Nat.le_refl _)] at hnx
        obtain ⟨np, nc, hu, hrows, hc1, hc2⟩ := hnx.rows
        rw [roundR_len, HDL.out] at hu hc1
        subst hu
        have HRows := Lib.hid hrows
        have HGW := Lib.hid (gr.out.trans gw.out)
        clear hnx hrows
        obtain ⟨lf, hlf⟩ : ∃ lf, leftR x.cons D j = lf := ⟨_, rfl⟩
        have HLF := Lib.hid hlf
        rw [hlf]
        clear hlf
        by_cases h0 : lf = 0
        · have heq := leftR_eq (C := x.cons) (D := D) (by rw [HDL.out, HLF.out]; exact h0)
          have HF := Lib.hid (hR2.out wr (roundR x.cons D) np nc (by rw [roundR_len, HDL.out]) (by rw [heq]; exact hinv.out.done HOKD2.out heq (fun v hv => hne.out v (by rw [← HDL.out]; exact hv))) HRows.out ⟨hc1, hc2⟩ (HG.out.trans HGW.out))
          have hb0 : ((lf : Int) == 0) = true := beq_iff_eq.2 (by omega)
          clear heq h0
          go_wp2_with fail
          exact HF.out
        · have hb0 : ((lf : Int) == 0) = false := beq_eq_false_iff_ne.2 (by omega)
          have HLess := Lib.hid (leftR_less (C := x.cons) (D := D) (by rw [HDL.out, HLF.out]; exact h0))
          have HInv := Lib.hid (hinv.out.next HOKD2.out)
          have HN2 := Lib.hid (roundR_near (C := x.cons) HNear.out)
          have HS2 := Lib.hid (roundR_short (C := x.cons) HShort.out)
          have HL2 : Hid ((roundR x.cons D).length = j) := by show _ = _; rw [roundR_len, HDL.out]
          clear h0
          go_wp2_with fail
          go_roundg (totD (roundR x.cons D))
          case measure => exact HLess.out
          case rel => exact ⟨roundR x.cons D, np, nc, rfl, rfl, ⟨hc1, hc2⟩, HL2, HRows, HInv, HN2, HS2, HGW⟩
      obtain ⟨b, o, hp, _, hrd⟩ := hrw.out.resolve_left (fun e0 => by have := HDL.out; rw [e0] at this; simp at this; omega)
      obtain ⟨d, hd⟩ : ∃ d, D[j]? = some d := ⟨_, List.getElem?_eq_getElem (by rw [HDL.out]; exact hjn)⟩
      obtain ⟨q, cq, d0R, hsl⟩ := hrd j d hd
      have HD0 := Lib.hid d0R
      have d0 := gw.out.at d0R
      have hdl := hsl.1
      have hdc := hsl.2.1
      have HDN := Lib.hid (HNear.out d (List.mem_of_getElem? hd))
      have HDS := Lib.hid (HShort.out d (List.mem_of_getElem? hd))
      have HGD := Lib.hid (show D.getD j [] = d by rw [List.getD_eq_getElem?_getD, hd]; rfl)
      have HRO := Lib.hid (rowOk_in hsl gw.out)
      subst hp
      clear hrd hd hsl d0R
      go_wp2_with fail
      clear d0
      go_loopg [8, 9, 10, 11, 12] x.C.length (fun k llv iv sv bv jv wr => ∃ (i : Nat) (L : List Int) (lp : Option Addr) (lc : Nat), i ≤ x.C.length ∧ k = x.C.length - i ∧ llv = .slice lp L.length lc ∧ iv = .int .i64 ((i : Nat) : Int) ∧ Hid (d.filter (keepR (x.cons.take i) D j) = L) ∧ Hid (RowOk wR.heap.size wr (.slice lp L.length lc) L) ∧ Hid (NextR wR.heap.size u ((roundR x.cons D).take j) wr) ∧ Hid (Gr wR wr))
      case atStart => exact ⟨0, d, q, cq, Nat.zero_le _, rfl, rfl, rfl, by show _ = _; rw [List.take_zero]; exact List.filter_eq_self.2 fun y _ => rfl, HRO, hnx, gw⟩
      case round =>
        clear HRO hnx gw
        obtain ⟨i, L, lp, lc, hi, rfl, rfl, rfl, hL, hro, hnx, gw⟩ := hrel
        have b1 := (gr.out.trans gw.out).at HB1.out
        obtain ⟨lp', lc', he, hLsl, -⟩ := hro.out
        cases he
        have HLS := Lib.hid hLsl
        have hll1 := hLsl.1
        have hll2 := hLsl.2.1
        clear hLsl
        by_cases hic : i < x.C.length
        · obtain ⟨y, hy⟩ : ∃ y, x.C[i]? = some y := ⟨_, List.getElem?_eq_getElem hic⟩
          have hyin := List.mem_of_getElem? hy
          have HGw := Lib.hid (HG.out.trans (gr.out.trans gw.out))
          obtain ⟨cb, co, hcpe, _, hcells⟩ := (HX.out.cns.mono HGw.out).resolve_left (fun e0 => by rw [e0] at hyin; exact (List.not_mem_nil hyin))
          have x0 := hcells _ y hy 0 (.int .i64 y.k) rfl
          have x1 := hcells _ y hy 1 (.slice y.vp y.vs.length y.vc) rfl
          have x2 := hcells _ y hy 2 (.slice y.cp y.cs.length y.cc) rfl
          have x3 := hcells _ y hy 3 (.int .i64 y.op) rfl
          have x4 := hcells _ y hy 4 (.int .i64 y.c) rfl
          simp only [← Nat.add_assoc, Nat.add_zero] at x0 x1 x2 x3 x4
          rw [hcpe] at b1
          have HCP := Lib.hid hcpe
          have hsup := supported_calls y j (some ⟨b, o, none⟩) c D wr ((HX.out.ins y hyin).mono HGw.out) (hrw.out.mono gw.out) (by rw [HDL.out]; exact HLC.out) (HOKc.out y hyin) (by rw [HDL.out]; exact hjn) (by rw [HDL.out]; exact HFew.out) HNear.out HShort.out
          rw [HDL.out, show y.val = .agg #[.int .i64 y.k, .slice y.vp y.vs.length y.vc, .slice y.cp y.cs.length y.cc, .int .i64 y.op, .int .i64 y.c] from rfl] at hsup
          obtain ⟨S, hS⟩ : ∃ S, supR D y.con j = S := ⟨_, rfl⟩
          rw [hS] at hsup
          have Hsup := Lib.hid hsup
          have HLN := Lib.hid (show d.filter (keepR (x.cons.take (i + 1)) D j) = L.filter (fun z => decide (z ∈ S)) by
            rw [HCT.out i y hy, keepR_more, hL.out, hS])
          have HLNear := Lib.hid (show ∀ z ∈ L, Near z by rw [← hL.out]; exact filter_near HDN.out)
          have HLlen := Lib.hid (show L.length ≤ 100 by
            rw [← hL.out]
            exact Nat.le_trans (List.length_filter_le ..) HDS.out)
          clear hy hyin hcells hcpe hsup hS
          go_upto_region 12 with (first
            | (go_at_call 18; refine Hsup.out.mono ?_; rintro e1 w5 ⟨sp, sc, rfl, hssl, hg5⟩; have HSS := Lib.hid hssl; have HG5 := Lib.hid hg5; clear hssl hg5)
            | fail)
          clear b1 x0 x1 x2 x3 x4
          have hsl1 := HSS.out.1
          have hsl2 := HSS.out.2.1
          have HLS5 := Lib.hid (HLS.out.mono HG5.out)
          have HRO5 := Lib.hid (hro.out.gr HG5.out)
          have HNX5 := Lib.hid (hnx.out.gr HG5.out)
          have HGW5 := Lib.hid (gw.out.trans HG5.out)
          go_wp2_with fail
          go_loopg [11, 12] L.length (fun k bv jv wr => ∃ (q : Nat) (bu : Value), q ≤ L.length ∧ k = L.length - q ∧ bu = bv ∧ jv = .int .i64 ((q : Nat) : Int) ∧ Hid (IntsOwn wr w5.heap.size bu ((L.take q).filter (fun z => decide (z ∈ S)))) ∧ Hid (Gr w5 wr))
          case atStart => exact ⟨0, _, Nat.zero_le _, rfl, rfl, rfl, IntsOwn.nil _ _, Gr.rfl' _⟩
          case round =>
            obtain ⟨q, bu, hq, rfl, rfl, rfl, hbo, g5⟩ := hrel
            by_cases hql : q < L.length
            · obtain ⟨z, hz⟩ : ∃ z, L[q]? = some z := ⟨_, List.getElem?_eq_getElem hql⟩
              obtain ⟨b3, o3, hlpe, _, hr3⟩ := HLS5.out.ptr (by omega)
              subst hlpe
              have HZ := Lib.hid (hr3 q z hz)
              have z0 := g5.out.at HZ.out
              have HTK := Lib.hid (show (L.take (q + 1)).filter (fun z => decide (z ∈ S)) = (L.take q).filter (fun z => decide (z ∈ S)) ++ (if z ∈ S then [z] else []) by
                rw [List.take_add_one, hz, List.filter_append]
                congr 1
                show List.filter _ [z] = _
                by_cases h : z ∈ S
                · rw [if_pos h, List.filter_cons_of_pos (by simpa using h)]; rfl
                · rw [if_neg h, List.filter_cons_of_neg (by simpa using h)]; rfl)
              have Hhas := Lib.hid (has_calls sp sc S z wr (HSS.out.mono g5.out))
              have HGE := Lib.hid (hasIdx_ge (L := S) (n := z))
              have HTL : Hid (((L.take q).filter (fun z => decide (z ∈ S))).length ≤ 1000000000000) := by
                show _ ≤ _
                have h1 := List.length_filter_le (fun z => decide (z ∈ S)) (L.take q)
                rw [List.length_take] at h1
                have := HLlen.out
                omega
              generalize hasIdx S z = hi0 at *
              clear hr3 hz
              by_cases hzs : z ∈ S
              · have hge : (0 : Int) ≤ hi0 := HGE.out.2 hzs
                have HTN := Lib.hid (show (L.take (q + 1)).filter (fun z => decide (z ∈ S)) = (L.take q).filter (fun z => decide (z ∈ S)) ++ [z] by rw [HTK.out, if_pos hzs])
                clear hzs
                go_upto_region 17 with (first
                  | (go_at_call 19; refine Hhas.out.mono ?_; rintro e1 w6 ⟨rfl, hb⟩; have HG6 := Lib.hid (g5.out.trans (show Gr wr w6 from hb)); have HG7 := Lib.hid (show Gr wr w6 from hb); clear hb)
                  | fail)
                clear z0
                have z0 := HG6.out.at HZ.out
                obtain ⟨v', w', hrun, ho', hg', -, -⟩ := ints_push (w0 := w5) z (hbo.out.gr HG7.out) HG6.out.size HG6.out (Nat.le_refl _) HTL.out
                have HRN := Lib.hid hrun
                rw [← HTN.out] at ho'
                have HO := Lib.hid ho'
                have HGn := Lib.hid hg'
                clear hrun ho' hg'
                go_wp2_with (first
                  | (at_builtin; refine wpList_append_run _ rfl _ _ _ _ rfl _ _ (by rfl) (by rfl) _ _ HRN.out ?_)
                  | fail)
                go_roundg (L.length - (q + 1))
                case measure => omega
                case rel => exact ⟨q + 1, v', by omega, rfl, rfl, by go_num, HO, HGn⟩
              · have hge : ¬ (0 : Int) ≤ hi0 := fun h => hzs (HGE.out.1 h)
                have HTN := Lib.hid (show (L.take (q + 1)).filter (fun z => decide (z ∈ S)) = (L.take q).filter (fun z => decide (z ∈ S)) by rw [HTK.out, if_neg hzs, List.append_nil])
                clear hzs
                go_wp2_with (first
                  | (go_at_call 19; refine Hhas.out.mono ?_; rintro e1 w6 ⟨rfl, hb⟩; have HG6 := Lib.hid (g5.out.trans (show Gr wr w6 from hb)); have HG7 := Lib.hid (show Gr wr w6 from hb); clear hb)
                  | fail)
                go_roundg (L.length - (q + 1))
                case measure => omega
                case rel => exact ⟨q + 1, bu, by omega, rfl, rfl, by go_num, by show IntsOwn _ _ _ _; rw [HTN.out]; exact hbo.out.gr HG7.out, HG6⟩
            · obtain rfl : q = L.length := by omega
              have hbo := hbo.out
              rw [List.take_length, ← HLN.out] at hbo
              obtain ⟨L2, hL2⟩ : ∃ L2, d.filter (keepR (x.cons.take (i + 1)) D j) = L2 := ⟨_, rfl⟩
              rw [hL2] at hbo
              obtain ⟨bp, bc, hbu⟩ := hbo.form
              subst hbu
              have HL2 := Lib.hid hL2
              have HRO2 := Lib.hid (rowOk_own (B0 := wR.heap.size) hbo (by rw [← hL2]; exact filter_near HDN.out))
              have HNX2 := Lib.hid (HNX5.out.gr g5.out)
              have HGW2 := Lib.hid (HGW5.out.trans g5.out)
              clear hbo hL2
              go_wp2_with fail
              go_roundg (x.C.length - (i + 1))
              case measure => omega
              case rel => exact ⟨i + 1, L2, bp, bc, by omega, rfl, rfl, by go_num, HL2, HRO2, HNX2, HGW2⟩
        · obtain rfl : i = x.C.length := by omega
          have hLr : rowR x.cons D j = L := by rw [← hL.out, HCTL.out, rowR, HGD.out]
          have HLr := Lib.hid hLr
          have HLle := Lib.hid (show L.length ≤ d.length by rw [← hL.out]; exact List.length_filter_le ..)
          clear hL
          by_cases h0 : L = []
          · have HF := Lib.hid (hinv.out.none HOKD2.out (v := j) (by rw [HDL.out]; exact hjn) (by rw [hLr]; exact h0))
            have HGf := Lib.hid (HG.out.trans (gr.out.trans gw.out))
            have hb0 : ((L.length : Int) == 0) = true := by rw [h0]; rfl
            clear hLr h0
            go_wp2_with fail
            exact hR1.out _ HF.out HGf.out
          have hb0 : ((L.length : Int) == 0) = false := beq_eq_false_iff_ne.2 (by
            have : L.length ≠ 0 := fun e => h0 (List.eq_nil_of_length_eq_zero e)
            omega)
          have HNE : Hid (∀ v, v < j + 1 → rowR x.cons D v ≠ []) := fun v hv => by
            by_cases hvj : v = j
            · rw [hvj, HLr.out]; exact h0
            · exact hne.out v (by omega)
          have HLF := Lib.hid (show ((leftR x.cons D (j + 1) : Nat) : Int) = (leftR x.cons D j : Nat) + ((d.length : Int) - (L.length : Int)) by
            rw [leftR, HGD.out, HLr.out]
            have := HLle.out
            omega)
          have hlf := leftR_le x.cons D HShort.out j
          have hjb : j ≤ 50 := by have := HFew.out; omega
          have HTR := Lib.hid (show (roundR x.cons D).take (j + 1) = (roundR x.cons D).take j ++ [L] by
            rw [List.take_add_one, roundR_at (by rw [HDL.out]; exact hjn), hLr]; rfl)
          have hd100 := HDS.out
          have hlle := HLle.out
          have d0 := gw.out.at HD0.out
          clear hLr h0
          obtain ⟨lf, hlfe⟩ : ∃ lf : Nat, leftR x.cons D j = lf := ⟨_, rfl⟩
          rw [hlfe] at hlf HLF ⊢
          clear hlfe
          have hw1 : IntKind.i64.wrap ((d.length : Int) - (L.length : Int)) = (d.length : Int) - (L.length : Int) := wrap_in (by omega)
          go_upto_region 22 with fail
          clear d0
          obtain ⟨v', w', hrun, ho', hkp⟩ := NextR.push (w := wr.alloc (.cells #[.slice lp L.length lc] 38)) (hnx.out.gr (by go_grown)) (hro.out.gr (by go_grown)) (by rw [List.length_take]; omega) (Nat.le_trans gw.out.size (by simp)) 22 wr.heap.size ((BlkT.new wr 38 #[.slice lp L.length lc]).cell 0 rfl)
          have HRN := Lib.hid hrun
          rw [← HTR.out] at ho'
          have HO := Lib.hid ho'
          have HGn : Hid (Gr wR w') := Below.trans (gw.out.trans (by go_grown)) (hkp.below (fun b hb => by
            obtain ⟨xs, _, h2, _⟩ := hnx.out.own
            exact (ownsRow_type h2 hb).2) (Nat.le_trans gw.out.size (by simp)))
          clear hrun ho' hkp
          go_wp2_with (first
            | (at_builtin; refine wpList_append_run _ rfl _ _ _ _ rfl _ _ (by rfl) (by rfl) _ _ HRN.out ?_)
            | fail)
          go_roundg (n - (j + 1))
          case measure => omega
          case rel => exact ⟨j + 1, v', by omega, rfl, rfl, by rw [HLF.out], by go_num, HO, HGn, HNE⟩
end Go.Proofs.Ytbapmokbkjmdcaa

namespace Go.Proofs.Ytbapmokbkjmdcaa
open Go.RowKit Go.Maps Go.Lib

theorem RowsOwn.at {B : Nat} {w : World} {p : Option Addr} {D : List (List Int)} (h : RowsOwn B w p D) (hn : ∀ d ∈ D, ∀ y ∈ d, Near y) : RowsAt w p D := by
  rcases h with h | ⟨b, vs, h1, h2, h3, h4⟩
  · exact .inl h
  · refine .inr ⟨b, 0, h1, h3.lt, fun i d hd => ?_⟩
    obtain ⟨v, h5, h6⟩ := h4 i d hd
    obtain ⟨q, c, rfl⟩ := h6.form
    refine ⟨q, c, by rw [Nat.zero_add]; exact h3.cell i h5, (h6.sl fun y hy => ?_).2⟩
    have := hn d (List.mem_of_getElem? hd) y hy
    exact ⟨by have := this.1; omega, by have := this.2; omega⟩

set_option maxHeartbeats 4000000 in
set_option maxRecDepth 100000 in
theorem rowsLaw_calls (p q : Option Addr) (c d : Nat) (L M : List (List Int)) (w : World) (hx : RowsAt w p L) (hy : RowsAt w q M) (hlc : L.length ≤ c ∧ c ≤ 9223372036854775807) (hld : M.length ≤ d ∧ d ≤ 9223372036854775807) :
    Calls Try.prog 13 #[.slice p L.length c, .slice q M.length d] w (Ret (.bool (decide (L = M))) w) := by
  have hR : Hid (∀ b, decide (L = M) = b → ∀ w', Gr w w' → Ret (.bool (decide (L = M))) w (.returned (.bool b)) w') := fun b hb w' hg => ⟨by rw [hb], hg⟩
  have hlc1 := hlc.1
  have hc := hlc.2
  have hlc2 := hld.1
  have hc2 := hld.2
  have H := Lib.hid hx
  have K := Lib.hid hy
  generalize hQ : Ret (.bool (decide (L = M))) w = Q at hR ⊢
  clear hQ hx hy hlc hld
  by_cases hll : L.length = M.length
  case neg =>
    have hb : ((L.length : Int) == (M.length : Int)) = false := beq_eq_false_iff_ne.2 (by omega)
    have hb2 : ((L.length : Int) != (M.length : Int)) = true := by rw [bne, hb]; rfl
    have HF := Lib.hid (decide_eq_false (p := L = M) fun e => hll (by rw [e]))
    clear hll
    go_enter Try.func13, Try.ntmps13
    try simp only [List.append_eq, List.cons_append, List.nil_append]
    go_wp2_with fail
    exact hR.out _ HF.out _ (Gr.rfl' _)
  have hb : ((L.length : Int) == (M.length : Int)) = true := beq_iff_eq.2 (by omega)
  have hb2 : ((L.length : Int) != (M.length : Int)) = false := by rw [bne, hb]; rfl
  have HLL := Lib.hid hll
  clear hll
  go_enter Try.func13, Try.ntmps13
  try simp only [List.append_eq, List.cons_append, List.nil_append]
  go_wp2_with fail
  go_loopg [5] L.length (fun m i wr => ∃ k : Nat, k ≤ L.length ∧ m = L.length - k ∧ i = .int .i64 k ∧ Gr w wr ∧ Hid (∀ i, i < k → L[i]? = M[i]?))
  case atStart => exact ⟨0, Nat.zero_le _, rfl, rfl, Gr.rfl' _, fun i hi => by omega⟩
  case round =>
    obtain ⟨k, hk, rfl, rfl, gr, hsm⟩ := hrel
    by_cases hlt : k < L.length
    · have hlt2 : k < M.length := by rw [← HLL.out]; exact hlt
      obtain ⟨b, o, hpe, _, hr⟩ := (H.out.mono gr).resolve_left (fun e0 => by rw [e0] at hlt; simp at hlt)
      obtain ⟨b', o', hqe, _, hr'⟩ := (K.out.mono gr).resolve_left (fun e0 => by rw [e0] at hlt2; simp at hlt2)
      subst hpe hqe
      obtain ⟨y, hy⟩ : ∃ y, L[k]? = some y := ⟨_, List.getElem?_eq_getElem hlt⟩
      obtain ⟨z, hz⟩ : ∃ z, M[k]? = some z := ⟨_, List.getElem?_eq_getElem hlt2⟩
      obtain ⟨q1, c1, c0, hs1⟩ := hr k _ hy
      obtain ⟨q2, c2, d0, hs2⟩ := hr' k _ hz
      have HY := Lib.hid hy
      have HZ := Lib.hid hz
      have HS1 := Lib.hid hs1
      have HS2 := Lib.hid hs2
      clear hr hr' hy hz hs1 hs2
      go_upto_region 6 with fail
      refine wp_region_rely_tail 8 [fx (.slice (some ⟨b, o, none⟩) L.length c), fx (.int .i64 (k : Nat)), fx (.pointer (some ⟨b, o + k, none⟩)), fx (.slice q1 y.length c1), fx (.slice (some ⟨b', o', none⟩) M.length d), fx (.int .i64 (k : Nat)), fx (.pointer (some ⟨b', o' + k, none⟩)), fx (.slice q2 z.length c2)]
        (by kernel_rfl) (by kernel_rfl) (by decide) (by repeat (first | exact Stable.nil | refine Stable.fix ?_)) ?_ ?_
      · refine ⟨?_, ?_, ?_, ?_, ?_, ?_, ?_, ?_, trivial⟩
        all_goals
          intro fr wz hg hold
          have h0 : fr.tmps[0]?.getD undef = .slice (some ⟨b, o, none⟩) L.length c := hold 0 rfl
          have h1 : fr.tmps[1]?.getD undef = .slice (some ⟨b', o', none⟩) M.length d := hold 1 rfl
          have h5 : fr.tmps[5]?.getD undef = .int .i64 (k : Nat) := hold 5 rfl
          clear hold
          have C0 := Gr.at hg c0
          have D0 := Gr.at hg d0
          simp [predsImp, Region.binds, dstAt, fx]
          intros
          first
            | (rw [if_pos (by simp [*])]
               intro K hK)
            | (rename_i K hK)
          go_simp
        all_goals exact hK _ _ rfl (Gr.rfl' _)
      · intro wz hg
        rintro _ rfl _ rfl _ rfl _ rfl _ rfl _ rfl _ rfl _ rfl
        simp only [finAll, Act.put, List.setIfInBounds_toArray, List.set_cons_succ, List.set_cons_zero, List.drop_succ_cons, List.drop_zero, List.take_zero]
        clear c0 d0
        have Hc := Lib.hid (same_calls q1 q2 c1 c2 y z wz (HS1.out.mono hg) (HS2.out.mono hg))
        have HGz := Lib.hid (gr.trans hg)
        clear hg
        obtain ⟨bq, hbq⟩ : ∃ bq, decide (y = z) = bq := ⟨_, rfl⟩
        have HBQ := Lib.hid hbq
        rw [hbq] at Hc
        clear hbq
        cases bq with
        | true =>
          have HN : Hid (∀ i, i < k + 1 → L[i]? = M[i]?) := fun i hi => by
            by_cases hik : i = k
            · rw [hik, HY.out, HZ.out, of_decide_eq_true HBQ.out]
            · exact hsm.out i (by omega)
          go_wp2_with (first
            | (go_at_call 17; refine Hc.out.mono ?_; rintro e1 w1 ⟨rfl, hb⟩; have HG1 := Lib.hid (HGz.out.trans (show Gr wz w1 from hb)); clear hb)
            | fail)
          go_roundg (L.length - (k + 1))
          case measure => omega
          case rel => exact ⟨k + 1, by omega, rfl, by go_num, HG1.out, HN⟩
        | false =>
          have HF := Lib.hid (decide_eq_false (p := L = M) fun e => by
            subst e
            have h1 := HY.out.symm.trans HZ.out
            cases h1
            exact of_decide_eq_false HBQ.out rfl)
          go_wp2_with (first
            | (go_at_call 17; refine Hc.out.mono ?_; rintro e1 w1 ⟨rfl, hb⟩; have HG1 := Lib.hid (HGz.out.trans (show Gr wz w1 from hb)); clear hb)
            | fail)
          exact hR.out _ HF.out _ HG1.out
    · obtain rfl : k = L.length := by omega
      have HF := Lib.hid (decide_eq_true (p := L = M) (by
        apply List.ext_getElem?
        intro i
        by_cases hi : i < L.length
        · exact hsm.out i hi
        · rw [List.getElem?_eq_none (by omega), List.getElem?_eq_none (by have := HLL.out; omega)]))
      go_wp2_with fail
      exact hR.out _ HF.out _ gr

set_option maxHeartbeats 8000000 in
set_option maxRecDepth 100000 in
theorem domainReduces_walk (x : Pb) (w : World) (hx : x.In w) : Calls Try.prog 3 #[x.val] w (Ret (.bool true) w) := by
  have hR : Hid (∀ b, true = b → ∀ w', Gr w w' → Ret (.bool true) w (.returned (.bool b)) w') := fun b hb w' hg => ⟨by rw [hb], hg⟩
  generalize Ret (.bool true) w = Q at hR ⊢
  have HX := Lib.hid hx
  have Hck : Hid (∀ W, Gr w W → Calls Try.prog 9 #[x.val] W (Ret (.int .i64 (checkP x.D x.cons)) W)) := fun W hW => check_calls x W (hx.mono hW)
  have Hrd : Hid (∀ W, Gr w W → Calls Try.prog 10 #[x.val] W (RetReduce x W)) := fun W hW => reduceP_calls x W (hx.mono hW)
  have Hrc : Hid (∀ W, Gr w W → Calls Try.prog 11 #[x.val] W (Ret (.int .i64 (checkP x.D x.cons)) W)) := fun W hW => rcheck_calls x W (hx.mono hW)
  have Hrr : Hid (checkP x.D x.cons = 0 → ∀ W, Gr w W → Calls Try.prog 12 #[x.val] W (RetRR x W)) := fun h W hW => rreduce_calls x W (hx.mono hW) h
  have HND : Hid (checkP x.D x.cons = 0 → ∀ d ∈ x.D, d.Nodup) := fun h d hd => ((okDom_rise ((check_zero h).1 d hd)).1).imp fun h e => by omega
  clear hx
  rw [show x.val = .agg #[.slice x.dp x.D.length x.dc, .slice x.cp x.C.length x.cc] from rfl] at Hck Hrd Hrc Hrr ⊢
  go_enter Try.func3, Try.ntmps3
  try simp only [List.append_eq, List.cons_append, List.nil_append]
  go_upto_region 1 with fail
  have hB := BlkT.new w 25 #[.slice x.dp x.D.length x.dc, .slice x.cp x.C.length x.cc]
  have gA : Gr w (w.alloc (.cells #[.slice x.dp x.D.length x.dc, .slice x.cp x.C.length x.cc] 25)) := by go_grown
  generalize hwA : w.alloc (.cells #[.slice x.dp x.D.length x.dc, .slice x.cp x.C.length x.cc] 25) = wA at *
  clear hwA
  have b0 := hB.cell 0 (v := .slice x.dp x.D.length x.dc) rfl
  have b1 := hB.cell 1 (v := .slice x.cp x.C.length x.cc) rfl
  have HB0 := Lib.hid b0
  have HB1 := Lib.hid b1
  have HG := Lib.hid gA
  clear hB
  have H1 := Lib.hid (Hck.out wA gA)
  clear gA
  obtain ⟨ec, hec⟩ : ∃ ec, checkP x.D x.cons = ec := ⟨_, rfl⟩
  have HEC := Lib.hid hec
  rw [hec] at H1 Hrc
  clear hec
  go_upto_region 2 with (first
    | (go_at_call 9; refine H1.out.mono ?_; rintro e1 w1 ⟨rfl, hb⟩; have hb : Gr wA w1 := hb; replace b0 := Gr.at hb b0; replace b1 := Gr.at hb b1; have G1 := Lib.hid (HG.out.trans hb); clear hb)
    | fail)
  have H2 := Lib.hid (Hrd.out w1 G1.out)
  by_cases h0 : ec = 0
  case neg =>
    have hb1 : (ec == 0) = false := beq_eq_false_iff_ne.2 h0
    have hb2 : (ec != 0) = true := by rw [bne, hb1]; rfl
    have hb3 : (ec == ec) = true := beq_self_eq_true ec
    have hb4 : (ec != ec) = false := by rw [bne, hb3]; rfl
    have HNZ := Lib.hid h0
    clear h0
    go_upto_region 3 with (first
      | (go_at_call 10; refine H2.out.mono ?_; rintro e2 w2 ⟨hg2, hor⟩; obtain rfl : e2 = .returned (.tuple #[.slice none 0 0, .bool false, .int .i64 ec]) := (by
          rcases hor with ⟨_, h⟩ | ⟨h, _⟩ | ⟨h, _⟩
          · rw [h, HEC.out]
          · exact absurd (HEC.out.symm.trans h) HNZ.out
          · exact absurd (HEC.out.symm.trans h) HNZ.out); replace b0 := Gr.at hg2 b0; replace b1 := Gr.at hg2 b1; have G2 := Lib.hid (G1.out.trans hg2); clear hg2 hor)
      | fail)
    have H3 := Lib.hid (Hrc.out w2 G2.out)
    go_wp2_with (first
      | (go_at_call 11; refine H3.out.mono ?_; rintro e3 w3 ⟨rfl, hb⟩; have hb : Gr w2 w3 := hb; have G3 := Lib.hid (G2.out.trans hb); clear hb b0 b1)
      | fail)
    exact hR.out _ rfl _ G3.out
  subst h0
  have Hrr2 := Lib.hid (Hrr.out HEC.out)
  have HND2 := Lib.hid (HND.out HEC.out)
  by_cases hE : ∃ E, RedOk x.cons x.D E
  case neg =>
    have HNE := Lib.hid hE
    clear hE
    go_upto_region 3 with (first
      | (go_at_call 10; refine H2.out.mono ?_; rintro e2 w2 ⟨hg2, hor⟩; obtain rfl : e2 = .returned (.tuple #[.slice none 0 0, .bool false, .int .i64 0]) := (by
          rcases hor with ⟨h, _⟩ | ⟨_, _, h⟩ | ⟨_, E, _, _, h, _⟩
          · exact absurd HEC.out h
          · exact h
          · exact absurd ⟨E, h⟩ HNE.out); replace b0 := Gr.at hg2 b0; replace b1 := Gr.at hg2 b1; have G2 := Lib.hid (G1.out.trans hg2); clear hg2 hor)
      | fail)
    have H3 := Lib.hid (Hrc.out w2 G2.out)
    go_upto_region 6 with (first
      | (go_at_call 11; refine H3.out.mono ?_; rintro e3 w3 ⟨rfl, hb⟩; have hb : Gr w2 w3 := hb; replace b0 := Gr.at hb b0; replace b1 := Gr.at hb b1; have G3 := Lib.hid (G2.out.trans hb); clear hb)
      | fail)
    have H4 := Lib.hid (Hrr2.out w3 G3.out)
    go_upto_region 7 with (first
      | (go_at_call 12; refine H4.out.mono ?_; rintro e4 w4 ⟨hg4, hor⟩; obtain rfl : e4 = .returned (.tuple #[.slice none 0 0, .bool false]) := (by
          rcases hor with ⟨_, h⟩ | ⟨E, _, _, h, _⟩
          · exact h
          · exact absurd ⟨E, h⟩ HNE.out); have G4 := Lib.hid (G3.out.trans hg4); clear hg4 hor b0 b1)
      | fail)
    have Hrw := Lib.hid (rowsLaw_calls none none 0 0 [] [] w4 (.inl rfl) (.inl rfl) ⟨Nat.le_refl _, by omega⟩ ⟨Nat.le_refl _, by omega⟩)
    go_wp2_with (first
      | (go_at_call 13; refine Hrw.out.mono ?_; rintro e5 w5 ⟨rfl, hb⟩; have hb : Gr w4 w5 := hb; have G5 := Lib.hid (G4.out.trans hb); clear hb)
      | fail)
    exact hR.out _ rfl _ G5.out
  obtain ⟨E, hEok⟩ := hE
  have HE := Lib.hid hEok
  clear hEok
  go_upto_region 3 with (first
    | (go_at_call 10; refine H2.out.mono ?_; rintro e2 w2 ⟨hg2, hor⟩; obtain ⟨p, c, he2, hro, hc1, hc2, hnr⟩ : ∃ p c, e2 = .returned (.tuple #[.slice p E.length c, .bool true, .int .i64 0]) ∧ RowsOwn w1.heap.size w2 p E ∧ E.length ≤ c ∧ c ≤ 9223372036854775807 ∧ (∀ d ∈ E, ∀ y ∈ d, Near y) := (by
        rcases hor with ⟨h, _⟩ | ⟨_, h, _⟩ | ⟨_, E', p, c, h, h1, h2, h3, h4, h5, _⟩
        · exact absurd HEC.out h
        · exact (RedOk.not HE.out h).elim
        · obtain rfl := RedOk.uniq HND2.out h HE.out
          exact ⟨p, c, h1, h2, h3, h4, h5⟩); subst he2; have HRA := Lib.hid (hro.at hnr); replace b0 := Gr.at hg2 b0; replace b1 := Gr.at hg2 b1; have G2 := Lib.hid (G1.out.trans hg2); clear hg2 hor hro hnr)
    | fail)
  have H3 := Lib.hid (Hrc.out w2 G2.out)
  go_upto_region 6 with (first
    | (go_at_call 11; refine H3.out.mono ?_; rintro e3 w3 ⟨rfl, hb⟩; have hb : Gr w2 w3 := hb; replace b0 := Gr.at hb b0; replace b1 := Gr.at hb b1; have G3 := Lib.hid (G2.out.trans hb); have G23 := Lib.hid hb; clear hb)
    | fail)
  have H4 := Lib.hid (Hrr2.out w3 G3.out)
  go_upto_region 7 with (first
    | (go_at_call 12; refine H4.out.mono ?_; rintro e4 w4 ⟨hg4, hor⟩; obtain ⟨p', c', he4, hra, hc3, hc4⟩ : ∃ p c, e4 = .returned (.tuple #[.slice p E.length c, .bool true]) ∧ RowsAt w4 p E ∧ E.length ≤ c ∧ c ≤ 9223372036854775807 := (by
        rcases hor with ⟨h, _⟩ | ⟨E', p, c, h, h1, h2, h3, h4⟩
        · exact (RedOk.not HE.out h).elim
        · obtain rfl := RedOk.uniq HND2.out h HE.out
          exact ⟨p, c, h1, h2, h3, h4⟩); subst he4; have HRA4 := Lib.hid hra; have G4 := Lib.hid (G3.out.trans hg4); have G34 := Lib.hid (G23.out.trans hg4); clear hg4 hor hra b0 b1)
    | fail)
  have Hrw := Lib.hid (rowsLaw_calls p p' c c' E E w4 (HRA.out.mono G34.out) HRA4.out ⟨hc1, hc2⟩ ⟨hc3, hc4⟩)
  rw [decide_eq_true rfl] at Hrw
  go_wp2_with (first
    | (go_at_call 13; refine Hrw.out.mono ?_; rintro e5 w5 ⟨rfl, hb⟩; have hb : Gr w4 w5 := hb; have G5 := Lib.hid (G4.out.trans hb); clear hb)
    | fail)
  exact hR.out _ rfl _ G5.out
end Go.Proofs.Ytbapmokbkjmdcaa
