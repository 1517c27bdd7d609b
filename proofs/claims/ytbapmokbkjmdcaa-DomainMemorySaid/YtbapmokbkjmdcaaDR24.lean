/-
  hornref.Supported: the walk.
  hornref.Reduce in rounds: plain.
-/
import Derived.Test.YtbapmokbkjmdcaaDR23
namespace Go.Proofs.Ytbapmokbkjmdcaa
open Go.RowKit Go.Maps Go.Lib

/-- The call returned numbers; none of what was there has turned. -/
def RetSl (L : List Int) (w : World) (e : Ending) (w' : World) : Prop := ∃ p c, e = .returned (.slice p L.length c) ∧ IntSl w' p c L ∧ Gr w w'
def nowV (B0 n : Nat) : VP := fun v w => ∃ B, v = .slice (some ⟨B, 0, none⟩) n n ∧ B0 ≤ B ∧ BlkT w B 2 (ints (List.replicate n 0))
theorem nowV_stable {B0 n : Nat} : ∀ v w w', nowV B0 n v w → Gr w w' → nowV B0 n v w' := fun _ _ _ ⟨B, h1, h2, h3⟩ hg => ⟨B, h1, h2, h3.gr hg⟩
def setV (B0 n : Nat) : VP := fun v w => ∃ B, v = .slice (some ⟨B, 0, none⟩) n n ∧ B0 ≤ B ∧ BlkT w B 4 (bools (List.replicate n false))
theorem setV_stable {B0 n : Nat} : ∀ v w w', setV B0 n v w → Gr w w' → setV B0 n v w' := fun _ _ _ ⟨B, h1, h2, h3⟩ hg => ⟨B, h1, h2, h3.gr hg⟩
theorem infoBoolS : (Try.prog.info? 4).map (fun i => (i.zero, i.size, i.bytes)) = some (some (.bool false), 1, 1) := by kernel_rfl
theorem make_bools (n : Nat) (hn : n ≤ 1000) (W : World) : (Instr.makeSlice 65 (.int .i64 (n : Int)) (.int .i64 (n : Int))).run Try.prog W = .ok (.slice (some ⟨W.heap.size, 0, none⟩) n n) (W.alloc (.cells (bools (List.replicate n false)) 4)) := by
  obtain ⟨i0, hi0, hz0, hz1, hz2⟩ := info_parts infoBoolS
  have h := run_make (P := Try.prog) W 65 4 i0 (.bool false) Try.underlying65 hi0 hz0 .i64 .i64 (n : Int) (n : Int) (by omega) (Int.le_refl _) (by rw [hz2]; omega) (by omega)
  rw [hz1, Nat.mul_one, Int.toNat_natCast, show (Value.bool false).cells = #[.bool false] from rfl, made_bools] at h
  exact h
theorem make_ints (n : Nat) (hn : n ≤ 1000) (W : World) : (Instr.makeSlice 38 (.int .i64 (n : Int)) (.int .i64 (n : Int))).run Try.prog W = .ok (.slice (some ⟨W.heap.size, 0, none⟩) n n) (W.alloc (.cells (ints (List.replicate n 0)) 2)) := by
  obtain ⟨i0, hi0, hz0, hz1, hz2⟩ := info_parts infoI64
  have h := run_make (P := Try.prog) W 38 2 i0 (.int .i64 0) Try.underlying38 hi0 hz0 .i64 .i64 (n : Int) (n : Int) (by omega) (Int.le_refl _) (by rw [hz2]; omega) (by omega)
  rw [hz1, Nat.mul_one, Int.toNat_natCast, show (Value.int .i64 0).cells = #[.int .i64 0] from rfl, made_ints] at h
  exact h
theorem near_rep (n : Nat) : ∀ y ∈ List.replicate n (0 : Int), Near y := fun y hy => by
  rw [(List.mem_replicate.1 hy).2]; exact ⟨by omega, by omega⟩

set_option maxHeartbeats 8000000 in
set_option maxRecDepth 100000 in
theorem supported_calls (x : Cn) (vn : Nat) (dp : Option Addr) (dc : Nat) (D : List (List Int)) (w : World) (hx : x.In w) (hD : RowsAt w dp D) (hdl : D.length ≤ dc ∧ dc ≤ 9223372036854775807) (hok : x.con.ok D.length = true) (hv : vn < D.length) (hfew : D.length ≤ 50) (hnear : ∀ d ∈ D, ∀ y ∈ d, Near y) (hshort : ∀ d ∈ D, d.length ≤ 100) :
    Calls Try.prog 18 #[x.val, .int .i64 (vn : Int), .slice dp D.length dc] w (RetSl (supR D x.con vn) w) := by
  have hR : Hid (∀ L p c w', supR D x.con vn = L → IntSl w' p c L → Gr w w' → RetSl (supR D x.con vn) w (.returned (.slice p L.length c)) w') := fun L p c w' h1 h2 h3 => ⟨p, c, by rw [h1], by rw [h1]; exact h2, h3⟩
  generalize RetSl (supR D x.con vn) w = Q at hR ⊢
  have HX := Lib.hid hx
  have HDR := Lib.hid hD
  have HOK := Lib.hid hok
  have HFEW := Lib.hid hfew
  have HNear := Lib.hid hnear
  have HShort := Lib.hid hshort
  have HV8 : Hid (x.vs.length ≤ 8) := ok_vars hok
  have hlc := hdl.1
  have hcc := hdl.2
  have hlv := hx.vars.1
  have hcv := hx.vars.2.1
  have HVAR : Hid (∀ y ∈ x.vs, ∃ m : Nat, y = m ∧ m < D.length) := fun y hy => by
    have := Con.ok_var hok hy
    exact ⟨y.toNat, by omega, by omega⟩
  have HSR1 : Hid ((vn : Int) ∉ x.vs → supR D x.con vn = dom D vn) := fun h => if_neg h
  have HSR2 : Hid ((vn : Int) ∈ x.vs → supR D x.con vn = (dom D vn).filter (supG D x.con vn)) := fun h => if_pos h
  obtain ⟨d, hd⟩ : ∃ d, D[vn]? = some d := ⟨_, List.getElem?_eq_getElem hv⟩
  have hdd : dom D vn = d := by rw [dom, Int.toNat_natCast, List.getD_eq_getElem?_getD, hd]; rfl
  rw [hdd] at HSR1 HSR2
  have HD := Lib.hid hd
  have hmkB := make_bools D.length (by omega)
  have hmkI := Lib.hid (make_ints D.length (by omega))
  have hmkB2 := Lib.hid hmkB
  clear hx hD hdl hok hfew hnear hshort hd hdd
  have HVal := Lib.hid (show x.val = .agg #[.int .i64 x.k, .slice x.vp x.vs.length x.vc, .slice x.cp x.cs.length x.cc, .int .i64 x.op, .int .i64 x.c] from rfl)
  rw [HVal.out]
  go_enter Try.func18, Try.ntmps18
  try simp only [List.append_eq, List.cons_append, List.nil_append]
  go_upto_region 1 with fail
  have hB := CnBlk.new w x
  have gA : Gr w (w.alloc (.cells #[.int .i64 x.k, .slice x.vp x.vs.length x.vc, .slice x.cp x.cs.length x.cc, .int .i64 x.op, .int .i64 x.c] 42)) := by go_grown
  generalize w.alloc (.cells #[.int .i64 x.k, .slice x.vp x.vs.length x.vc, .slice x.cp x.cs.length x.cc, .int .i64 x.op, .int .i64 x.c] 42) = wA at *
  have HB := Lib.hid hB
  have HG := Lib.hid gA
  clear hB gA
  go_upto_region 2 with fail
  have hA := BlkT.new wA 4 (bools (List.replicate D.length false))
  have gB : Gr wA (wA.alloc (.cells (bools (List.replicate D.length false)) 4)) := by go_grown
  obtain ⟨bA, hbA⟩ : ∃ bA, wA.heap.size = bA := ⟨_, rfl⟩
  have HbA := Lib.hid hbA
  rw [hbA] at hA ⊢
  generalize wA.alloc (.cells (bools (List.replicate D.length false)) 4) = wC at *
  rw [← askL_nil] at hA
  have HA := Lib.hid hA
  have HGC := Lib.hid gB
  clear hA gB hbA hmkB
  go_wp2_with fail
  go_loopg [8, 9] x.vs.length (fun k mv i wr => ∃ j : Nat, j ≤ x.vs.length ∧ k = x.vs.length - j ∧ mv = .bool (decide ((vn : Int) ∈ x.vs.take j)) ∧ i = .int .i64 ((j : Nat) : Int) ∧ Hid (Gr wA wr) ∧ Hid (BlkT wr bA 4 (bools (askL D.length (x.vs.take j)))))
  case atStart => exact ⟨0, Nat.zero_le _, rfl, by rw [List.take_zero]; simp, rfl, HGC, by show BlkT _ _ _ _; rw [List.take_zero]; exact HA.out⟩
  case round =>
    obtain ⟨j, hj, rfl, rfl, rfl, gr, ha⟩ := hrel
    obtain ⟨b0, b1, b2, b3, b4⟩ := (HB.out.gr gr.out).cells
    by_cases hlt : j < x.vs.length
    · obtain ⟨y, hy⟩ : ∃ y, x.vs[j]? = some y := ⟨_, List.getElem?_eq_getElem hlt⟩
      obtain ⟨m, hym, hml⟩ := HVAR.out y (List.mem_of_getElem? hy)
      obtain ⟨b, o, hvp, _, hr⟩ := (HX.out.vars.mono HG.out).ptr (by omega)
      have c0A := hr j _ hy
      have c0 := gr.out.at c0A
      have zs := ha.out.cell m (bools_at (getD_lt' (by rw [askL_len]; exact hml)))
      have zf := ha.out.open_ m
      have hks : Kp (· = bA) wr (wr.setCell ⟨bA, m, none⟩ (.bool true)) := Kp.set rfl
      have HG2 : Hid (Gr wA (wr.setCell ⟨bA, m, none⟩ (.bool true))) := Below.trans gr.out (hks.below (fun b hb => by rw [hb, ← HbA.out]; exact Nat.le_refl _) gr.out.size)
      have hA2 : BlkT (wr.setCell ⟨bA, m, none⟩ (.bool true)) bA 4 ((bools (askL D.length (x.vs.take j))).setIfInBounds m (.bool true)) := ha.out.set m _
      have htk : x.vs.take (j + 1) = x.vs.take j ++ [y] := by rw [List.take_add_one, hy]; rfl
      rw [bools_set, askL_more, ← hym, ← htk] at hA2
      have HA2 := Lib.hid hA2
      have HIN := Lib.hid (show decide ((vn : Int) ∈ x.vs.take (j + 1)) = (decide ((vn : Int) ∈ x.vs.take j) || decide ((vn : Int) = y)) by rw [htk]; simp)
      have HC := Lib.hid c0A
      have HVP := Lib.hid hvp
      rw [hvp] at b1
      have hml2 : (m : Int) < (D.length : Int) := by omega
      subst hym
      clear hr hy hks hA2 htk hvp c0A
      go_upto_region 7 with fail
      clear b0 b1 b2 b3 b4 c0 zs zf
      obtain ⟨b0, b1, b2, b3, b4⟩ := (HB.out.gr HG2.out).cells
      rw [HVP.out] at b1
      have c0 := HG2.out.at HC.out
      generalize wr.setCell ⟨bA, m, none⟩ (.bool true) = wS at *
      obtain ⟨ij, hij⟩ : ∃ ij, decide ((vn : Int) ∈ x.vs.take j) = ij := ⟨_, rfl⟩
      rw [hij] at HIN ⊢
      clear hij
      cases ij with
      | true =>
        go_wp2_with fail
        go_roundg (x.vs.length - (j + 1))
        case measure => omega
        case rel => exact ⟨j + 1, by omega, rfl, by rw [HIN.out, Bool.true_or], by go_num, HG2, HA2⟩
      | false =>
        by_cases h : (vn : Int) = (m : Int)
        · have hsw : ((m : Int) == (vn : Int)) = true := beq_iff_eq.2 h.symm
          have HF := Lib.hid (HIN.out.trans ((Bool.false_or _).trans (decide_eq_true h)))
          clear h
          go_wp2_with fail
          go_roundg (x.vs.length - (j + 1))
          case measure => omega
          case rel => exact ⟨j + 1, by omega, rfl, by rw [HF.out], by go_num, HG2, HA2⟩
        · have hsw : ((m : Int) == (vn : Int)) = false := beq_eq_false_iff_ne.2 fun e => h e.symm
          have HF := Lib.hid (HIN.out.trans ((Bool.false_or _).trans (decide_eq_false h)))
          clear h
          go_wp2_with fail
          go_roundg (x.vs.length - (j + 1))
          case measure => omega
          case rel => exact ⟨j + 1, by omega, rfl, by rw [HF.out], by go_num, HG2, HA2⟩
    · obtain rfl : j = x.vs.length := by omega
      have ha := ha.out
      rw [List.take_length] at ha ⊢
      have HA1 := Lib.hid ha
      clear ha
      obtain ⟨b, o, hdp, _, hrd⟩ := (HDR.out.mono (HG.out.trans gr.out)).resolve_left (fun e0 => by rw [e0] at hv; simp at hv)
      subst hdp
      obtain ⟨q, cq, d0, hsl⟩ := hrd vn d HD.out
      have hdl := hsl.1
      have hdc := hsl.2.1
      have HSL := Lib.hid hsl
      clear hrd hsl
      have hvl : (vn : Int) < (D.length : Int) := by omega
      by_cases hmine : (vn : Int) ∈ x.vs
      case neg =>
        rw [decide_eq_false hmine]
        have HF := Lib.hid (HSR1.out hmine)
        clear hmine
        go_wp2_with fail
        exact hR.out d q cq _ HF.out HSL.out (HG.out.trans gr.out)
      rw [decide_eq_true hmine]
      have HF := Lib.hid (HSR2.out hmine)
      have HMI := Lib.hid hmine
      clear hmine
      have HGB := Lib.hid (HG.out.trans gr.out)
      have HBX := Lib.hid (HB.out.gr gr.out)
      have HD0 := Lib.hid d0
      go_wp2_with fail
      clear b0 b1 b2 b3 b4 d0
      generalize wr = wB at *
      go_loopg [10, 11, 12, 13] d.length (fun k ov kv nv sv wr => ∃ (m : Nat) (u : Value), m ≤ d.length ∧ k = d.length - m ∧ u = ov ∧ kv = .int .i64 ((m : Nat) : Int) ∧ Hid (Gr wB wr) ∧ Hid (IntsOwn wr wB.heap.size u ((d.take m).filter (supG D x.con vn))))
      case atStart => exact ⟨0, _, Nat.zero_le _, rfl, rfl, rfl, Gr.rfl' _, IntsOwn.nil _ _⟩
      case round =>
        obtain ⟨m, u, hm, rfl, rfl, rfl, gw, ho⟩ := hrel
        have d0 := gw.out.at HD0.out
        by_cases hmd : m < d.length
        case neg =>
          obtain rfl : m = d.length := by omega
          have ho := ho.out
          rw [List.take_length] at ho
          obtain ⟨p, c, rfl⟩ := ho.form
          have hsl := (ho.sl fun y hy => by
            have := HNear.out d (List.mem_of_getElem? HD.out) y (List.mem_filter.1 hy).1
            exact ⟨by have := this.1; omega, by have := this.2; omega⟩).2
          have HSLF := Lib.hid hsl
          clear hsl ho
          generalize hLF : d.filter (supG D x.con vn) = LF at *
          have HLF := Lib.hid hLF
          clear hLF
          go_wp2_with fail
          exact hR.out LF p c _ (by rw [HF.out]) HSLF.out (HGB.out.trans gw.out)
        obtain ⟨y, hy⟩ : ∃ y, d[m]? = some y := ⟨_, List.getElem?_eq_getElem hmd⟩
        obtain ⟨b3, o3, hqe, _, hr3⟩ := HSL.out.ptr (by omega)
        subst hqe
        have HE1 := Lib.hid (hr3 m y hy)
        have HYN := Lib.hid (HNear.out d (List.mem_of_getElem? HD.out) y (List.mem_of_getElem? hy))
        have HTK := Lib.hid (show (d.take (m + 1)).filter (supG D x.con vn) = (d.take m).filter (supG D x.con vn) ++ (if supG D x.con vn y = true then [y] else []) by
          rw [List.take_add_one, hy, List.filter_append]
          congr 1
          show List.filter _ [y] = _
          by_cases h : supG D x.con vn y = true
          · rw [if_pos h, List.filter_cons_of_pos h]; rfl
          · rw [if_neg h, List.filter_cons_of_neg h]; rfl)
        have HTL : Hid (((d.take m).filter (supG D x.con vn)).length ≤ 1000000000000) := by
          show _ ≤ _
          have h1 := List.length_filter_le (supG D x.con vn) (d.take m)
          have h2 := HShort.out d (List.mem_of_getElem? HD.out)
          rw [List.length_take] at h1
          omega
        clear hr3 hy
        go_upto_region 14 with fail
        clear d0
        refine wp_region_rely [fx (.slice (some ⟨b, o, none⟩) D.length dc), fx (.int .i64 D.length), nowV wr.heap.size D.length, fx (.slice (some ⟨b, o, none⟩) D.length dc), fx (.int .i64 D.length), setV wr.heap.size D.length, nowV wr.heap.size D.length, setV wr.heap.size D.length]
          (by kernel_rfl) (by kernel_rfl) (by repeat (first | exact Stable.nil | refine Stable.fix ?_ | refine Stable.cons nowV_stable ?_ | refine Stable.cons setV_stable ?_)) ?_ ?_
        · refine ⟨?_, ?_, ?a2, ?_, ?_, ?a5, ?a6, ?a7, trivial⟩
          case a6 =>
            intro fr wz hg hold
            have h2 : fr.tmps[2]?.getD undef = .slice (some ⟨b, o, none⟩) D.length dc := hold 2 rfl
            clear hold
            have hmI := hmkI.out
            have hmB := hmkB2.out
            simp [predsImp, Region.binds, dstAt, fx]
            intro h58
            obtain ⟨B, hv58, hB0, hBz⟩ := h58
            intros
            rename_i K hK
            go_simp
            first | exact hK _ _ ⟨B, rfl, hB0, hBz⟩ (Gr.rfl' _) | exact hK _ _ ⟨B, hv58, hB0, hBz⟩ (Gr.rfl' _)
          case a7 =>
            intro fr wz hg hold
            have h2 : fr.tmps[2]?.getD undef = .slice (some ⟨b, o, none⟩) D.length dc := hold 2 rfl
            clear hold
            have hmI := hmkI.out
            have hmB := hmkB2.out
            simp [predsImp, Region.binds, dstAt, fx]
            intro h61
            obtain ⟨B, hv61, hB0, hBz⟩ := h61
            intros
            rename_i K hK
            go_simp
            first | exact hK _ _ ⟨B, rfl, hB0, hBz⟩ (Gr.rfl' _) | exact hK _ _ ⟨B, hv61, hB0, hBz⟩ (Gr.rfl' _)
          all_goals
            intro fr wz hg hold
            have h2 : fr.tmps[2]?.getD undef = .slice (some ⟨b, o, none⟩) D.length dc := hold 2 rfl
            clear hold
            have hmI := hmkI.out
            have hmB := hmkB2.out
            simp [predsImp, Region.binds, dstAt, fx]
            intros
            first
              | (rw [if_pos (by simp [*])]
                 intro K hK)
              | (rename_i K hK)
            go_simp
          case a2 =>
            exact hK _ _ ⟨_, rfl, hg.size, BlkT.new _ _ _⟩ (by go_grown)
          case a5 =>
            exact hK _ _ ⟨_, rfl, hg.size, BlkT.new _ _ _⟩ (by go_grown)
          all_goals exact hK _ _ rfl (Gr.rfl' _)
        · intro wz hg
          rintro _ rfl _ rfl _ - _ rfl _ rfl _ - _ ⟨bN, rfl, gN, hN⟩ _ ⟨bS, rfl, gS, hS⟩
          simp only [finAll, Act.put, List.setIfInBounds_toArray, List.set_cons_succ, List.set_cons_zero]
          have hne : bN ≠ bS := OfT.ne (.of hN) (.of hS) (by decide)
          have gz := gw.out.trans hg
          have e0 := gz.at HD0.out
          have e1 := gz.at HE1.out
          have hvr : (List.replicate D.length (0 : Int))[vn]? = some 0 := by rw [List.getElem?_replicate, if_pos hv]
          have hvb : (List.replicate D.length false)[vn]? = some false := by rw [List.getElem?_replicate, if_pos hv]
          have zN := hN.cell vn (ints_at hvr)
          have fN := hN.open_ vn
          have hk1 : Kp (· = bN) wz (wz.setCell ⟨bN, vn, none⟩ (.int .i64 y)) := Kp.set rfl
          have hS1 := hS.kp hk1 (fun e => hne e.symm)
          have zS := hS1.cell vn (bools_at hvb)
          have fS := hS1.open_ vn
          have hN1 := hN.set vn (.int .i64 y)
          rw [ints_set] at hN1
          have hk2 : Kp (· = bS) (wz.setCell ⟨bN, vn, none⟩ (.int .i64 y)) ((wz.setCell ⟨bN, vn, none⟩ (.int .i64 y)).setCell ⟨bS, vn, none⟩ (.bool true)) := Kp.set rfl
          have hN2 := hN1.kp hk2 hne
          have hS2 := hS1.set vn (.bool true)
          rw [bools_set] at hS2
          have hg1 : Gr wr (wz.setCell ⟨bN, vn, none⟩ (.int .i64 y)) := Below.trans hg (hk1.below (fun b hb => by rw [hb]; exact gN) hg.size)
          have hg2 : Gr wr ((wz.setCell ⟨bN, vn, none⟩ (.int .i64 y)).setCell ⟨bS, vn, none⟩ (.bool true)) := Below.trans hg1 (hk2.below (fun b hb => by rw [hb]; exact gS) hg1.size)
          have HN2 := Lib.hid hN2
          have HS2 := Lib.hid hS2
          have HG2 := Lib.hid hg2
          clear hN2 hS2 hg2 hg1 hk1 hk2 hS1 hN1 hvr hvb hN hS gz hg
          go_upto_region 16 with fail
          clear e0 e1 zN fN zS fS
          generalize (wz.setCell ⟨bN, vn, none⟩ (.int .i64 y)).setCell ⟨bS, vn, none⟩ (.bool true) = wq at *
          have HWQ := Lib.hid (HGB.out.trans (gw.out.trans HG2.out))
          obtain ⟨now1, hnow1⟩ : ∃ l, (List.replicate D.length (0 : Int)).set vn y = l := ⟨_, rfl⟩
          obtain ⟨set1, hset1⟩ : ∃ l, (List.replicate D.length false).set vn true = l := ⟨_, rfl⟩
          have hgo : gOf now1 set1 = updG (fun _ => none) (vn : Int) y := by rw [← hnow1, ← hset1]; exact gOf_new hv y
          have hl1 : now1.length = D.length := by rw [← hnow1]; simp
          have hl2 : set1.length = D.length := by rw [← hset1]; simp
          have hn1 : ∀ z ∈ now1, Near z := fun z hz => by
            rw [← hnow1] at hz
            exact (mem_set' hz).elim (near_rep _ z) fun e => e ▸ HYN.out
          rw [hnow1] at HN2
          rw [hset1] at HS2
          have hst := still_calls x now1 set1 (some ⟨bN, 0, none⟩) now1.length (some ⟨bS, 0, none⟩) set1.length wq (HX.out.mono HWQ.out) (ints_sl HN2.out hn1 (by rw [hl1]; have := HFEW.out; omega)) (bools_sl HS2.out (by rw [hl2]; have := HFEW.out; omega)) (by rw [hl1, hl2]) (by rw [hl1]; exact HOK.out) hn1
          rw [hl1, hl2, hgo, HVal.out] at hst
          have Hst := Lib.hid hst
          have Hch : Hid (∀ W, Gr wq W → Calls Try.prog 37 #[.slice (some ⟨b, o, none⟩) D.length dc, .slice (some ⟨W.heap.size, 0, none⟩) 1 1, .slice (some ⟨bA, 0, none⟩) D.length D.length, .slice (some ⟨bS, 0, none⟩) D.length D.length, .int .i64 0, .slice (some ⟨bN, 0, none⟩) D.length D.length, .func (.func 38) #[] #[]]
              (W.alloc (.cells #[.int .i64 x.k, .slice x.vp x.vs.length x.vc, .slice x.cp x.cs.length x.cc, .int .i64 x.op, .int .i64 x.c] 42)) fun e w' => e = .returned (.bool (chL [x.con] (fun i => decide ((i : Int) ∈ x.con.vars)) D 0 (updG (fun _ => none) (vn : Int) y)).isEmpty) ∧ Gr wr w') := fun W hW => by
            have h := sup_choose x (some ⟨b, o, none⟩) dc D bA bN bS now1 set1 wr W (HX.out.mono (HGB.out.trans gw.out)) (HDR.out.mono (HGB.out.trans gw.out)) ⟨hlc, hcc⟩ HOK.out HFEW.out HNear.out (HA1.out.gr gw.out) (HG2.out.trans hW) gN gS (HN2.out.gr hW) (HS2.out.gr hW) hl1 hl2 hn1
            rw [hgo] at h
            exact h
          have HSG := Lib.hid (show supG D x.con vn y = (stillG x.con (updG (fun _ => none) (vn : Int) y) && !(chL [x.con] (fun i => decide ((i : Int) ∈ x.con.vars)) D 0 (updG (fun _ => none) (vn : Int) y)).isEmpty) from rfl)
          generalize stillG x.con (updG (fun _ => none) (vn : Int) y) = st at *
          generalize (chL [x.con] (fun i => decide ((i : Int) ∈ x.con.vars)) D 0 (updG (fun _ => none) (vn : Int) y)).isEmpty = ce at *
          clear hst hgo hl1 hl2 hn1 hnow1 hset1 hne
          obtain ⟨b0, b1, b2, b3', b4⟩ := (HBX.out.gr (gw.out.trans HG2.out)).cells
          cases st with
          | false =>
            have HTN := Lib.hid (show (d.take (m + 1)).filter (supG D x.con vn) = (d.take m).filter (supG D x.con vn) by rw [HTK.out, HSG.out]; simp)
            go_wp2_with (first
              | (go_at_call 36; refine Hst.out.mono ?_; rintro e1 w5 ⟨rfl, hb⟩; have HG5 := Lib.hid (HG2.out.trans (show Gr wq w5 from hb)); clear hb)
              | fail)
            go_roundg (d.length - (m + 1))
            case measure => omega
            case rel => exact ⟨m + 1, u, by omega, rfl, rfl, by go_num, gw.out.trans HG5.out, by show IntsOwn _ _ _ _; rw [HTN.out]; exact ho.out.gr HG5.out⟩
          | true =>
            cases ce with
            | true =>
              have HTN := Lib.hid (show (d.take (m + 1)).filter (supG D x.con vn) = (d.take m).filter (supG D x.con vn) by rw [HTK.out, HSG.out]; simp)
              go_wp2_with (first
                | (go_at_call 36; refine Hst.out.mono ?_; rintro e1 w5 ⟨rfl, hb⟩; have hb : Gr wq w5 := hb; replace b0 := Gr.at hb b0; replace b1 := Gr.at hb b1; replace b2 := Gr.at hb b2; replace b3' := Gr.at hb b3'; replace b4 := Gr.at hb b4; have Hc2 := Lib.hid (Hch.out w5 hb); clear hb)
                | (go_at_call 37; refine Hc2.out.mono ?_; rintro e2 w6 ⟨rfl, hb⟩; have HG5 := Lib.hid hb; clear hb b0 b1 b2 b3' b4)
                | fail)
              go_roundg (d.length - (m + 1))
              case measure => omega
              case rel => exact ⟨m + 1, u, by omega, rfl, rfl, by go_num, gw.out.trans HG5.out, by show IntsOwn _ _ _ _; rw [HTN.out]; exact ho.out.gr HG5.out⟩
            | false =>
              have HTN := Lib.hid (show (d.take (m + 1)).filter (supG D x.con vn) = (d.take m).filter (supG D x.con vn) ++ [y] by rw [HTK.out, HSG.out]; simp)
              go_upto_region 17 with (first
                | (go_at_call 36; refine Hst.out.mono ?_; rintro e1 w5 ⟨rfl, hb⟩; have hb : Gr wq w5 := hb; replace b0 := Gr.at hb b0; replace b1 := Gr.at hb b1; replace b2 := Gr.at hb b2; replace b3' := Gr.at hb b3'; replace b4 := Gr.at hb b4; have Hc2 := Lib.hid (Hch.out w5 hb); clear hb)
                | (go_at_call 37; refine Hc2.out.mono ?_; rintro e2 w6 ⟨rfl, hb⟩; have HG5 := Lib.hid hb; clear hb b0 b1 b2 b3' b4)
                | fail)
              have e0 := (gw.out.trans HG5.out).at HD0.out
              have e1 := (gw.out.trans HG5.out).at HE1.out
              obtain ⟨v', w', hrun, ho', hg', -, -⟩ := ints_push (w0 := wB) y (ho.out.gr HG5.out) ((gw.out.trans HG5.out).size) (gw.out.trans HG5.out) (Nat.le_refl _) HTL.out
              have HRN := Lib.hid hrun
              rw [← HTN.out] at ho'
              have HO := Lib.hid ho'
              have HGn := Lib.hid hg'
              clear hrun ho' hg'
              go_wp2_with (first
                | (at_builtin; refine wpList_append_run _ rfl _ _ _ _ rfl _ _ (by rfl) (by rfl) _ _ HRN.out ?_)
                | fail)
              go_roundg (d.length - (m + 1))
              case measure => omega
              case rel => exact ⟨m + 1, v', by omega, rfl, rfl, by go_num, HGn, HO⟩
end Go.Proofs.Ytbapmokbkjmdcaa

namespace Go.Proofs.Ytbapmokbkjmdcaa
open Go.RowKit Go.Maps Go.Lib

/-- What the first constraints leave of a variable's numbers in a round. -/
def keepR (C : List Con) (D : List (List Int)) (v : Nat) (x : Int) : Bool := C.all fun c => decide (x ∈ supR D c v)
def rowR (C : List Con) (D : List (List Int)) (v : Nat) : List Int := (D.getD v []).filter (keepR C D v)
def roundR (C : List Con) (D : List (List Int)) : List (List Int) := (List.range D.length).map (rowR C D)
theorem roundR_len (C : List Con) (D : List (List Int)) : (roundR C D).length = D.length := by simp [roundR]
theorem roundR_at {C : List Con} {D : List (List Int)} {v : Nat} (h : v < D.length) : (roundR C D)[v]? = some (rowR C D v) := by
  rw [roundR, List.getElem?_map, List.getElem?_range h]; rfl
theorem roundR_getD {C : List Con} {D : List (List Int)} {v : Nat} (h : v < D.length) : (roundR C D).getD v [] = rowR C D v := by
  rw [List.getD_eq_getElem?_getD, roundR_at h]; rfl
theorem roundR_sub (C : List Con) (D : List (List Int)) : SubD (roundR C D) D := by
  refine ⟨roundR_len C D, fun i => ?_⟩
  by_cases h : i < D.length
  · rw [roundR_getD h]; exact List.filter_sublist ..
  · rw [List.getD_eq_getElem?_getD, List.getElem?_eq_none (by rw [roundR_len]; omega)]; exact List.nil_sublist _
theorem dom_nat (D : List (List Int)) (v : Nat) : dom D v = D.getD v [] := by rw [dom, Int.toNat_natCast]
theorem roundR_keeps {C : List Con} {D F : List (List Int)} (hok : ∀ c ∈ C, c.ok D.length = true) (hF : AC C F) (h : InD F D) : InD F (roundR C D) := by
  refine ⟨h.1.trans (roundR_len C D).symm, fun i x hx => ?_⟩
  have hx2 := h.2 i x hx
  have hi : i < D.length := by
    rcases Nat.lt_or_ge i D.length with hh | hh
    · exact hh
    · rw [List.getD_eq_getElem?_getD, List.getElem?_eq_none hh] at hx2
      exact absurd hx2 (by simp)
  rw [roundR_getD hi, rowR, List.mem_filter]
  refine ⟨hx2, List.all_eq_true.2 fun c hc => decide_eq_true ((mem_supR (hok c hc)).2 ⟨by rw [dom_nat]; exact hx2, fun hv => ?_⟩)⟩
  exact (hF c hc i hv x (by rw [dom_nat]; exact hx)).mono fun u hu y hy => h.2 _ y hy
/-- What is so between the rounds. -/
structure InvR (C : List Con) (D0 D : List (List Int)) : Prop where
  sub : SubD D D0
  most : ∀ F, AC C F → InD F D0 → InD F D
theorem InvR.start (C : List Con) (D : List (List Int)) : InvR C D D := ⟨SubD.refl D, fun _ _ h => h⟩
theorem InvR.next {C : List Con} {D0 D : List (List Int)} (hok : ∀ c ∈ C, c.ok D.length = true) (h : InvR C D0 D) : InvR C D0 (roundR C D) := ⟨(roundR_sub C D).trans h.sub, fun F hF hD => roundR_keeps hok hF (h.most F hF hD)⟩
theorem InvR.none {C : List Con} {D0 D : List (List Int)} (hok : ∀ c ∈ C, c.ok D.length = true) (h : InvR C D0 D) {v : Nat} (hv : v < D.length) (h0 : rowR C D v = []) : RedNo C D0 := fun F hF hD => by
  have hi := roundR_keeps hok hF (h.most F hF hD)
  have hl : v < F.length := by rw [hi.1, roundR_len]; exact hv
  refine ⟨F[v], List.getElem_mem hl, List.eq_nil_iff_forall_not_mem.2 fun x hx => ?_⟩
  have := hi.2 v x (by rw [getD_lt [] hl]; exact hx)
  rw [roundR_getD hv, h0] at this
  exact List.not_mem_nil this
theorem InvR.done {C : List Con} {D0 D : List (List Int)} (hok : ∀ c ∈ C, c.ok D.length = true) (h : InvR C D0 D) (he : roundR C D = D) (hne : ∀ v, v < D.length → rowR C D v ≠ []) : RedOk C D0 D := by
  refine ⟨h.sub, fun c hc v hv x hx => ?_, fun d hd => ?_, h.most⟩
  · have hv0 := Con.ok_var (hok c hc) hv
    obtain ⟨m, rfl⟩ : ∃ m : Nat, v = m := ⟨v.toNat, (Int.toNat_of_nonneg hv0.1).symm⟩
    have hm : m < D.length := by omega
    rw [dom_nat, ← he, roundR_getD hm, rowR, List.mem_filter] at hx
    exact ((mem_supR (hok c hc)).1 (of_decide_eq_true (List.all_eq_true.1 hx.2 c hc))).2 hv
  · obtain ⟨i, hi, rfl⟩ := List.getElem_of_mem hd
    have h1 := hne i hi
    rw [← roundR_getD hi, he, getD_lt [] hi] at h1
    exact h1
/-- How many numbers went, of the first variables. -/
def leftR (C : List Con) (D : List (List Int)) : Nat → Nat
  | 0 => 0
  | j + 1 => leftR C D j + ((D.getD j []).length - (rowR C D j).length)
theorem rowR_le (C : List Con) (D : List (List Int)) (v : Nat) : (rowR C D v).length ≤ (D.getD v []).length := List.length_filter_le ..
theorem leftR_zero {C : List Con} {D : List (List Int)} : ∀ {j : Nat}, leftR C D j = 0 → ∀ v, v < j → rowR C D v = D.getD v []
  | 0, _, v, hv => absurd hv (Nat.not_lt_zero _)
  | j + 1, h, v, hv => by
    rw [leftR] at h
    by_cases hvj : v = j
    · subst hvj
      have h1 := rowR_le C D v
      exact (List.filter_sublist (p := keepR C D v) (l := D.getD v [])).eq_of_length (by show (rowR C D v).length = _; omega)
    · exact leftR_zero (j := j) (by omega) v (by omega)
theorem leftR_eq {C : List Con} {D : List (List Int)} (h : leftR C D D.length = 0) : roundR C D = D := by
  apply List.ext_getElem?
  intro i
  by_cases hi : i < D.length
  · rw [roundR_at hi, leftR_zero h i hi, getD_lt [] hi]; exact (List.getElem?_eq_getElem hi).symm
  · rw [List.getElem?_eq_none (by rw [roundR_len]; omega), List.getElem?_eq_none (by omega)]
theorem leftR_le (C : List Con) (D : List (List Int)) (hs : ∀ d ∈ D, d.length ≤ 100) : ∀ j : Nat, leftR C D j ≤ j * 100
  | 0 => Nat.zero_le _
  | j + 1 => by
    have h1 := leftR_le C D hs j
    have h2 : (D.getD j []).length ≤ 100 := by
      by_cases hj : j < D.length
      · rw [getD_lt [] hj]; exact hs _ (List.getElem_mem hj)
      · rw [List.getD_eq_getElem?_getD, List.getElem?_eq_none (by omega)]; exact Nat.zero_le _
    rw [leftR]; omega
theorem tot_take {D : List (List Int)} {j : Nat} (hj : j < D.length) : totD (D.take (j + 1)) = totD (D.take j) + (D.getD j []).length := by
  rw [totD, totD, List.take_add_one, List.getElem?_eq_getElem hj, List.map_append, List.sum_append, getD_lt [] hj]; simp
theorem leftR_tot (C : List Con) (D : List (List Int)) : ∀ j : Nat, j ≤ D.length → totD ((roundR C D).take j) + leftR C D j = totD (D.take j)
  | 0, _ => by simp [leftR, totD]
  | j + 1, h => by
    have ih := leftR_tot C D j (by omega)
    have h1 := rowR_le C D j
    rw [tot_take (by rw [roundR_len]; omega), tot_take (by omega), roundR_getD (by omega), leftR]; omega
theorem leftR_less {C : List Con} {D : List (List Int)} (h : leftR C D D.length ≠ 0) : totD (roundR C D) < totD D := by
  have := leftR_tot C D D.length (Nat.le_refl _)
  rw [List.take_of_length_le (by rw [roundR_len]; exact Nat.le_refl _), List.take_length] at this
  omega
/-- What is so of the numbers stays so. -/
theorem roundR_near {C : List Con} {D : List (List Int)} (h : ∀ d ∈ D, ∀ y ∈ d, Near y) : ∀ d ∈ roundR C D, ∀ y ∈ d, Near y := fun d hd y hy => by
  obtain ⟨i, hi, rfl⟩ := List.mem_map.1 hd
  have hi := List.mem_range.1 hi
  have hm := (List.mem_filter.1 hy).1
  rw [getD_lt [] hi] at hm
  exact h _ (List.getElem_mem hi) y hm
theorem roundR_short {C : List Con} {D : List (List Int)} (h : ∀ d ∈ D, d.length ≤ 100) : ∀ d ∈ roundR C D, d.length ≤ 100 := fun d hd => by
  obtain ⟨i, hi, rfl⟩ := List.mem_map.1 hd
  have hi := List.mem_range.1 hi
  have h1 := rowR_le C D i
  rw [getD_lt [] hi] at h1
  exact Nat.le_trans h1 (h _ (List.getElem_mem hi))

/-- A row that may be read, and that lies behind nothing that turns. -/
def RowOk (B : Nat) (w : World) (v : Value) (d : List Int) : Prop := ∃ p c, v = .slice p d.length c ∧ IntSl w p c d ∧ ∀ a, p = some a → d ≠ [] → a.block < B ∨ OfT w a.block 2
theorem RowOk.gr {B : Nat} {w w' : World} {v : Value} {d : List Int} (h : RowOk B w v d) (hg : Gr w w') : RowOk B w' v d := by
  obtain ⟨p, c, h1, h2, h3⟩ := h
  refine ⟨p, c, h1, h2.mono hg, fun a ha hd => (h3 a ha hd).imp id fun ⟨cur, hc⟩ => ⟨cur, (hg.block a.block (Array.getElem?_eq_some_iff.1 hc).1).trans hc⟩⟩
/-- Rows behind one another, in a row of the call's own. -/
structure NextR (B : Nat) (v : Value) (R : List (List Int)) (w : World) : Prop where
  own : ∃ xs : List Value, xs.length = R.length ∧ w.ownsRow B 38 1 v R.length xs ∧ ∀ (i : Nat) (d : List Int), R[i]? = some d → ∃ u, xs[i]? = some u ∧ RowOk B w u d
theorem NextR.nil (B : Nat) (w : World) : NextR B (.slice none 0 0) [] w := ⟨[], rfl, World.ownsRow_nil w B _ 1, fun i d h => by simp at h⟩
theorem NextR.gr {B : Nat} {v : Value} {R : List (List Int)} {w w' : World} (h : NextR B v R w) (hg : Gr w w') : NextR B v R w' := by
  obtain ⟨xs, h1, h2, h3⟩ := h.own
  exact ⟨xs, h1, ownsRow_gr h2 hg, fun i d hd => by
    obtain ⟨u, h4, h5⟩ := h3 i d hd
    exact ⟨u, h4, h5.gr hg⟩⟩
theorem RowOk.kp {B : Nat} {w w' : World} {v u : Value} {d : List Int} {n : Nat} {xs : List Value} (h : RowOk B w u d) (ho : w.ownsRow B 38 1 v n xs) (hk : Kp (fun x => v.ownBlock = some x) w w') : RowOk B w' u d := by
  obtain ⟨p, c, h1, h2, h3⟩ := h
  have hno : ∀ a, p = some a → d ≠ [] → ¬ v.ownBlock = some a.block := fun a ha hd hc => by
    rcases h3 a ha hd with h | h
    · have := (ownsRow_type ho hc).2; omega
    · exact OfT.ne (ownsRow_type ho hc).1 h (by decide) rfl
  refine ⟨p, c, h1, h2.kpA hk hno, fun a ha hd => (h3 a ha hd).imp id fun ⟨cur, hc⟩ => ⟨cur, (hk.block a.block (Array.getElem?_eq_some_iff.1 hc).1 (hno a ha hd)).trans hc⟩⟩
/-- One more row. -/
theorem NextR.push {B : Nat} {v : Value} {R : List (List Int)} {w : World} (h : NextR B v R w) {u : Value} {d : List Int} (hu : RowOk B w u d) (hl : R.length ≤ 1000) (hB : B ≤ w.heap.size) (ty : TypeId) (b : Nat) (hb : w.cell? ⟨b, 0, none⟩ = some u) :
    ∃ v' w', (Builtin.append_ #[22, 22] ty #[v, .slice (some ⟨b, 0, none⟩) 1 1]).run Try.prog w = .ok v' w' ∧ NextR B v' (R ++ [d]) w' ∧ Kp (fun x => v.ownBlock = some x) w w' := by
  obtain ⟨xs, hxl, hown, heach⟩ := h.own
  obtain ⟨i0, hi, hz0, hz1, hz2⟩ := info_parts infoRows
  have hone : u.oneCell' = true := by
    obtain ⟨p, c, rfl, _⟩ := hu
    cases p <;> rfl
  obtain ⟨v', w', hr, ho, hg, _⟩ := run_append_own_fresh (P := Try.prog) w B 22 ty 38 i0 (.slice none 0 0) 1 24 Try.underlying22 hi hz0 hz1 hz2 rfl (by decide) v R.length xs hown ⟨b, 0, none⟩ 1 1 [u] rfl (by
    intro k v hk
    match k, hk with
    | 0, hk => cases hk; exact hb
    | k + 1, hk => simp at hk) (by
    intro v hv
    rw [List.mem_singleton.1 hv]; exact hone) (by simp only [maxLen]; omega) (by omega) hB (by decide)
  have hkp : Kp (fun x => v.ownBlock = some x) w w' := Kp.of_grown hg fun r hr => hr
  refine ⟨v', w', hr, ⟨xs ++ [u], by simp [hxl], by rw [List.length_append]; exact ho, fun i d' hd' => ?_⟩, hkp⟩
  by_cases hij : i < R.length
  · rw [List.getElem?_append_left hij] at hd'
    obtain ⟨z, h1, h2⟩ := heach i d' hd'
    exact ⟨z, by rw [List.getElem?_append_left (by omega)]; exact h1, h2.kp hown hkp⟩
  · have hi2 : i = R.length := by
      have := (List.getElem?_eq_some_iff.1 hd').1
      simp at this; omega
    subst hi2
    rw [List.getElem?_append_right (Nat.le_refl _), Nat.sub_self] at hd'
    cases hd'
    exact ⟨u, by rw [List.getElem?_append_right (by omega), hxl, Nat.sub_self]; rfl, hu.kp hown hkp⟩
theorem NextR.rows {B : Nat} {v : Value} {R : List (List Int)} {w : World} (h : NextR B v R w) : ∃ p c, v = .slice p R.length c ∧ RowsAt w p R ∧ R.length ≤ c ∧ c ≤ 9223372036854775807 := by
  obtain ⟨xs, hxl, hown, heach⟩ := h.own
  have ho := hown
  rcases ho.2 with ⟨h0, h1⟩ | ⟨g, cap, cur, h0, hbg, hg, hnc, hcm, hcs, htake⟩
  · exact ⟨none, 0, by rw [h0, h1], .inl (List.eq_nil_of_length_eq_zero h1), by omega, by omega⟩
  · subst h0
    simp only [maxLen] at hcm
    refine ⟨_, _, rfl, .inr ⟨g, 0, rfl, (Array.getElem?_eq_some_iff.1 hg).1, fun i d hd => ?_⟩, hnc, by omega⟩
    obtain ⟨u, h4, p, c, rfl, h6, _⟩ := heach i d hd
    refine ⟨p, c, ?_, h6⟩
    have hi : i < R.length := (List.getElem?_eq_some_iff.1 hd).1
    rw [Nat.zero_add, World.ownsRow.cellAt hown i (by omega), h4]
end Go.Proofs.Ytbapmokbkjmdcaa
