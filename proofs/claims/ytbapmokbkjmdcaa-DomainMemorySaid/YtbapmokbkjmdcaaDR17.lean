/-
  newEngine.
-/
import Derived.Test.YtbapmokbkjmdcaaDR16
namespace Go.Proofs.Ytbapmokbkjmdcaa
open Go.RowKit Go.Maps Go.Lib

/-- What newEngine makes. -/
def RetEng (x : Pb) (w : World) (en : Ending) (w' : World) : Prop :=
  ∃ (F : Fam) (e dB : Nat), en = .returned (.pointer (some ⟨e, 0, none⟩)) ∧ F.C = x.C ∧ F.N = x.D.length ∧ FamOk F w ∧ FamW F w w' ∧ EngW F w e dB x.D w' ∧ Gr w w'
/-- A row of no numbers, for each variable. -/
def Zeros (w : World) (B n : Nat) : Prop := ∃ cells : Array Value, BlkT w B 40 cells ∧ cells.size = n ∧ ∀ i : Nat, i < n → cells[i]? = some (.slice none 0 0)
theorem Zeros.gr {w w' : World} {B n : Nat} (h : Zeros w B n) (hg : Gr w w') : Zeros w' B n := by
  obtain ⟨cells, h1, h2⟩ := h
  exact ⟨cells, h1.gr hg, h2⟩
theorem infoSlInt : (Try.prog.info? 40).map (fun i => (i.zero, i.size, i.bytes)) = some (some (.slice none 0 0), 1, 24) := by kernel_rfl
theorem zeros_made (w : World) (n : Nat) : Zeros (w.alloc (.cells (madeCells #[.slice none 0 0] n) 40)) w.heap.size n :=
  ⟨_, BlkT.new _ _ _, size_madeCells _ _, fun i hi => by
    rw [← Array.getElem?_toList, toList_madeCells_one, List.getElem?_replicate, if_pos hi]⟩
def zerosV (B0 n : Nat) : VP := fun v w => ∃ B, v = .slice (some ⟨B, 0, none⟩) n n ∧ B0 ≤ B ∧ Zeros w B n
theorem zerosV_stable {B0 n : Nat} : ∀ v w w', zerosV B0 n v w → Gr w w' → zerosV B0 n v w' := fun _ _ _ ⟨B, h1, h2, h3⟩ hg => ⟨B, h1, h2, h3.gr hg⟩
def engV (B0 n : Nat) (p0 p1 : Value) : VP := fun v w => ∃ B, v = .agg #[p0, p1, .slice none 0 0, .slice (some ⟨B, 0, none⟩) n n] ∧ B0 ≤ B ∧ Zeros w B n
theorem engV_stable {B0 n : Nat} {p0 p1 : Value} : ∀ v w w', engV B0 n p0 p1 v w → Gr w w' → engV B0 n p0 p1 v w' := fun _ _ _ ⟨B, h1, h2, h3⟩ hg => ⟨B, h1, h2, h3.gr hg⟩
def engPV (B0 n : Nat) (p0 p1 : Value) : VP := fun v w => ∃ e B, v = .pointer (some ⟨e, 0, none⟩) ∧ B0 ≤ e ∧ B0 ≤ B ∧ BlkT w e 63 #[p0, p1, .slice none 0 0, .slice (some ⟨B, 0, none⟩) n n] ∧ Zeros w B n
theorem engPV_stable {B0 n : Nat} {p0 p1 : Value} : ∀ v w w', engPV B0 n p0 p1 v w → Gr w w' → engPV B0 n p0 p1 v w' := fun _ _ _ ⟨e, B, h1, h2, h3, h4, h5⟩ hg => ⟨e, B, h1, h2, h3, h4.gr hg, h5.gr hg⟩

theorem ownsRow_form {w : World} {B : Nat} {e : TypeId} {v : Value} {n : Nat} {xs : List Value} (h : w.ownsRow B e 1 v n xs) : ∃ p c, v = .slice p n c := by
  rcases h.2 with ⟨rfl, rfl⟩ | ⟨g, cap, cur, rfl, _⟩
  · exact ⟨none, 0, rfl⟩
  · exact ⟨_, _, rfl⟩
theorem BldU.start {wA w : World} {C : List Con} {uB n : Nat} (h : Zeros w uB n) : BldU wA C n uB (List.replicate n (.slice none 0 0)) (List.replicate n []) 0 0 w := by
  obtain ⟨cells, h1, h2, h3⟩ := h
  refine ⟨⟨cells, h1, fun i v hv => ?_⟩, List.length_replicate .., List.length_replicate .., fun i v u hv hu => ?_, fun i j v v' _ hv _ g hg => ?_, fun u hu => ?_, fun i u hu k => ?_⟩
  · obtain ⟨hi, rfl⟩ := List.getElem?_eq_some_iff.1 hv
    rw [List.getElem_replicate]
    exact h3 i (by simpa using hi)
  · have h4 := List.eq_of_mem_replicate (List.mem_of_getElem? hv)
    have h5 := List.eq_of_mem_replicate (List.mem_of_getElem? hu)
    subst h4 h5
    exact World.ownsRow_nil w _ _ 1
  · have h4 := List.eq_of_mem_replicate (List.mem_of_getElem? hv)
    subst h4
    cases hg
  · rw [List.eq_of_mem_replicate hu]; exact List.nodup_nil
  · rw [List.eq_of_mem_replicate (List.mem_of_getElem? hu)]
    constructor
    · intro h; exact (List.not_mem_nil h).elim
    · rintro ⟨_, c, _, h⟩
      rcases h with ⟨h, _⟩ | ⟨_, h⟩
      · omega
      · simp at h
/-- Within the first loop. -/
structure L1 (x : Pb) (wA : World) (e uB : Nat) (dv : Value) (xs : List Value) (j : Nat) (w : World) : Prop where
  eblk : BlkT w e 63 #[.slice x.dp x.D.length x.dc, .slice x.cp x.C.length x.cc, dv, .slice (some ⟨uB, 0, none⟩) x.D.length x.D.length]
  bd : BldD wA x.D dv xs j w
  bu : BldU wA x.cons x.D.length uB (List.replicate x.D.length (.slice none 0 0)) (List.replicate x.D.length []) 0 0 w
  gr : Gr wA w
theorem L1.gr' {x : Pb} {wA : World} {e uB : Nat} {dv : Value} {xs : List Value} {j : Nat} {w w' : World} (h : L1 x wA e uB dv xs j w) (hg : Gr w w') : L1 x wA e uB dv xs j w' := ⟨h.eblk.gr hg, h.bd.gr hg, h.bu.gr hg, h.gr.trans hg⟩
/-- A copy, on another block than the row. -/
def cpV (B : Nat) (r : Option Nat) (d : List Int) : VP := fun v w => IntsOwn w B v d ∧ ∀ g, v.ownBlock = some g → r ≠ some g
theorem cpV_stable {B : Nat} {r : Option Nat} {d : List Int} : ∀ v w w', cpV B r d v w → Kp (fun b => r = some b) w w' → cpV B r d v w' := fun _ _ _ ⟨h1, h2⟩ hk => ⟨ownsRow_kp h1 hk fun g hg hc => h2 g hg hc, h2⟩
def cpsV (B : Nat) (r : Option Nat) (d : List Int) : VP := fun t w => ∃ b v, t = .slice (some ⟨b, 0, none⟩) 1 1 ∧ BlkT w b 38 #[v] ∧ r ≠ some b ∧ cpV B r d v w
theorem cpsV_stable {B : Nat} {r : Option Nat} {d : List Int} : ∀ v w w', cpsV B r d v w → Kp (fun b => r = some b) w w' → cpsV B r d v w' := fun _ _ _ ⟨b, v, h1, h2, h3, h4⟩ hk => ⟨b, v, h1, h2.kp hk h3, h3, cpV_stable _ _ _ h4 hk⟩

/-- Within the second loop. -/
structure L2 (x : Pb) (wA : World) (e uB : Nat) (dv : Value) (xs : List Value) (vv : List Value) (U : List (List Int)) (j m : Nat) (w : World) : Prop where
  eblk : BlkT w e 63 #[.slice x.dp x.D.length x.dc, .slice x.cp x.C.length x.cc, dv, .slice (some ⟨uB, 0, none⟩) x.D.length x.D.length]
  bd : BldD wA x.D dv xs x.D.length w
  bu : BldU wA x.cons x.D.length uB vv U j m w
  gr : Gr wA w
theorem L2.gr' {x : Pb} {wA : World} {e uB : Nat} {dv : Value} {xs vv : List Value} {U : List (List Int)} {j m : Nat} {w w' : World} (h : L2 x wA e uB dv xs vv U j m w) (hg : Gr w w') : L2 x wA e uB dv xs vv U j m w' := ⟨h.eblk.gr hg, h.bd.gr hg, h.bu.gr hg, h.gr.trans hg⟩
theorem own_sl {w : World} {B : Nat} {t : TypeId} {p : Option Addr} {n c : Nat} {L : List Int} (ho : w.ownsRow B t 1 (.slice p n c) L.length (L.map (.int .i64))) (hin : ∀ k ∈ L, In64 k) : n = L.length ∧ IntSl w p c L := by
  rcases ho.2 with ⟨h0, h1⟩ | ⟨g, cap, cur, h0, h1, h2, h3, h4, h5, h6⟩
  · injection h0 with _ h00 h000
    have : L = [] := List.eq_nil_of_length_eq_zero h1
    subst this
    exact ⟨h00, Nat.zero_le _, by omega, hin, .inl rfl⟩
  · injection h0 with h00 h000 h0000
    subst h00 h000 h0000
    rw [Nat.mul_one] at h5 h6
    refine ⟨rfl, h3, h4, hin, .inr ⟨g, 0, rfl, (Array.getElem?_eq_some_iff.1 h2).1, fun j n hj => ?_⟩⟩
    have hjl := (List.getElem?_eq_some_iff.1 hj).1
    have : (cur.toList.take L.length)[j]? = (L.map (Value.int .i64))[j]? := by rw [h6]
    rw [List.getElem?_take_of_lt hjl, List.getElem?_map, hj, Array.getElem?_toList] at this
    rw [Nat.zero_add, cell_of_row w g j _ _ _ h2, this]; rfl
theorem BldU.bound {w0 w : World} {C : List Con} {N uB j m : Nat} {vv : List Value} {U : List (List Int)} (h : BldU w0 C N uB vv U j m w) {i : Nat} {u : List Int} (hu : U[i]? = some u) : ∀ k ∈ u, 0 ≤ k ∧ k < (C.length : Int) := fun k hk => by
  obtain ⟨h0, c, hc, _⟩ := (h.mem i u hu k).1 hk
  have := (List.getElem?_eq_some_iff.1 hc).1
  exact ⟨h0, by omega⟩
/-- Behind the append to a variable's list. -/
def UP (wA : World) (x : Pb) (uB : Nat) (vv : List Value) (U : List (List Int)) (j m i : Nat) (u : List Int) (v' : Value) (w : World) : Prop :=
  (∃ p c, v' = .slice p (u.length + 1) c) ∧ ∀ W, Gr w W → (∃ cells : Array Value, BlkT W uB 40 cells ∧ i < cells.size) ∧ BldU wA x.cons x.D.length uB (vv.set i v') (U.set i (u ++ [(j : Int)])) j (m + 1) (W.setCell ⟨uB, i, none⟩ v')
theorem UP.gr {wA : World} {x : Pb} {uB : Nat} {vv : List Value} {U : List (List Int)} {j m i : Nat} {u : List Int} {v' : Value} {w w' : World} (h : UP wA x uB vv U j m i u v' w) (hg : Gr w w') : UP wA x uB vv U j m i u v' w' := ⟨h.1, fun W hW => h.2 W (hg.trans hW)⟩
/-- A new slice of the constraint's number, on another block than the row. -/
def numV (r : Option Nat) (j : Nat) : VP := fun t w => ∃ b, t = .slice (some ⟨b, 0, none⟩) 1 1 ∧ BlkT w b 3 #[.int .i64 (j : Int)] ∧ r ≠ some b
theorem numV_stable {r : Option Nat} {j : Nat} : ∀ v w w', numV r j v w → Kp (fun b => r = some b) w w' → numV r j v w' := fun _ _ _ ⟨b, h1, h2, h3⟩ hk => ⟨b, h1, h2.kp hk h3, h3⟩

set_option maxHeartbeats 8000000 in
set_option maxRecDepth 100000 in
theorem newEngine_calls (x : Pb) (w : World) (hx : x.In w) (hok : ∀ c ∈ x.cons, c.ok x.D.length = true) (hD : ∀ d ∈ x.D, ∀ y ∈ d, Near y) (hs : ∀ d ∈ x.D, d.length ≤ 100) (hN : x.D.length ≤ 50) (hC : x.C.length ≤ 100) :
    Calls Try.prog 30 #[x.val] w (RetEng x w) := by
  have hR : Hid (∀ (F : Fam) (e dB : Nat) (w' : World), F.C = x.C → F.N = x.D.length → FamOk F w → FamW F w w' → EngW F w e dB x.D w' → Gr w w' → RetEng x w (.returned (.pointer (some ⟨e, 0, none⟩))) w') := fun F e dB w' h1 h2 h3 h4 h5 h6 => ⟨F, e, dB, rfl, h1, h2, h3, h4, h5, h6⟩
  generalize RetEng x w = Q at hR ⊢
  have HX := Lib.hid hx
  have HOK := Lib.hid hok
  have HDN := Lib.hid hD
  have HS := Lib.hid hs
  have HN := Lib.hid hN
  have HC := Lib.hid hC
  have hlc := hx.lenD.1
  have hcc := hx.lenD.2
  have hlc2 := hx.lenC.1
  have hcc2 := hx.lenC.2
  clear hx hok hD hs hN hC
  rw [show x.val = .agg #[.slice x.dp x.D.length x.dc, .slice x.cp x.C.length x.cc] from rfl]
  go_enter Try.func30, Try.ntmps30
  try simp only [List.append_eq, List.cons_append, List.nil_append]
  go_upto_region 1 with fail
  have hB := BlkT.new w 25 #[.slice x.dp x.D.length x.dc, .slice x.cp x.C.length x.cc]
  have gA : Gr w (w.alloc (.cells #[.slice x.dp x.D.length x.dc, .slice x.cp x.C.length x.cc] 25)) := by go_grown
  generalize hwA : w.alloc (.cells #[.slice x.dp x.D.length x.dc, .slice x.cp x.C.length x.cc] 25) = wA at *
  clear hwA
  have HB := Lib.hid hB
  have HG := Lib.hid gA
  have b0 := hB.cell 0 (v := .slice x.dp x.D.length x.dc) rfl
  have b1 := hB.cell 1 (v := .slice x.cp x.C.length x.cc) rfl
  clear hB gA
  obtain ⟨i0, hi0, hz0, hz1, hz2⟩ := info_parts infoSlInt
  have hmk : ∀ W : World, (Instr.makeSlice 61 (.int .i64 (x.D.length : Int)) (.int .i64 (x.D.length : Int))).run Try.prog W = .ok (.slice (some ⟨W.heap.size, 0, none⟩) x.D.length x.D.length) (W.alloc (.cells (madeCells #[.slice none 0 0] x.D.length) 40)) := fun W => by
    have h := run_make (P := Try.prog) W 61 40 i0 (.slice none 0 0) Try.underlying61 hi0 hz0 .i64 .i64 (x.D.length : Int) (x.D.length : Int) (by omega) (Int.le_refl _) (by rw [hz2]; have := HN.out; omega) (by have := HN.out; omega)
    rw [hz1, Nat.mul_one, Int.toNat_natCast] at h
    exact h
  clear hi0 hz0 hz1 hz2
  refine wp_region_rely_tail 7 [fx (.agg #[.slice x.dp x.D.length x.dc, .slice x.cp x.C.length x.cc]), fx (.pointer (some ⟨w.heap.size, 0, none⟩)), fx (.slice x.dp x.D.length x.dc), fx (.int .i64 x.D.length), zerosV wA.heap.size x.D.length, engV wA.heap.size x.D.length (.slice x.dp x.D.length x.dc) (.slice x.cp x.C.length x.cc), engPV wA.heap.size x.D.length (.slice x.dp x.D.length x.dc) (.slice x.cp x.C.length x.cc)]
    (by kernel_rfl) (by kernel_rfl) (by decide) (by repeat (first | exact Stable.nil | refine Stable.fix ?_ | refine Stable.cons zerosV_stable ?_ | refine Stable.cons engV_stable ?_ | refine Stable.cons engPV_stable ?_)) ?_ ?_
  · refine ⟨?_, ?_, ?_, ?_, ?a4, ?a5, ?a6, trivial⟩
    case a5 =>
      intro fr wz hg hold
      have h1 : fr.tmps[1]?.getD undef = .pointer (some ⟨w.heap.size, 0, none⟩) := hold 1 rfl
      clear hold
      have q0 := Gr.at hg b0
      have q1 := Gr.at hg b1
      simp [predsImp, Region.binds, dstAt, fx]
      intro h10 h14
      obtain ⟨B, hv, hB0, hBz⟩ := h14
      intros
      rename_i K hK
      go_simp
      exact hK _ _ ⟨B, rfl, hB0, hBz⟩ (Gr.rfl' _)
    case a6 =>
      intro fr wz hg hold
      have h1 : fr.tmps[1]?.getD undef = .pointer (some ⟨w.heap.size, 0, none⟩) := hold 1 rfl
      clear hold
      have q0 := Gr.at hg b0
      have q1 := Gr.at hg b1
      simp [predsImp, Region.binds, dstAt]
      intro h15
      obtain ⟨B, hv, hB0, hBz⟩ := h15
      intros
      rename_i K hK
      go_simp
      exact hK _ _ ⟨_, B, rfl, hg.size, hB0, BlkT.new _ _ _, hBz.gr (by go_grown)⟩ (by go_grown)
    all_goals
      intro fr wz hg hold
      have h1 : fr.tmps[1]?.getD undef = .pointer (some ⟨w.heap.size, 0, none⟩) := hold 1 rfl
      clear hold
      have q0 := Gr.at hg b0
      have q1 := Gr.at hg b1
      simp [predsImp, Region.binds, dstAt, fx]
      intros
      first
        | (rw [if_pos (by simp [*])]
           intro K hK)
        | (rename_i K hK)
      go_simp
    case a4 =>
      exact hK _ _ ⟨_, rfl, hg.size, zeros_made _ _⟩ (by go_grown)
    all_goals exact hK _ _ rfl (Gr.rfl' _)
  · intro wz hg
    rintro _ rfl _ rfl _ rfl _ rfl _ - _ - _ ⟨e, uB, rfl, he0, hu0, heb, hub⟩
    simp only [finAll, Act.put, List.setIfInBounds_toArray, List.set_cons_succ, List.set_cons_zero, List.drop_succ_cons, List.drop_zero, List.take_zero]
    clear b0 b1
    have HB2 := Lib.hid (HB.out.gr hg)
    have HGZ := Lib.hid hg
    have b0 := HB2.out.cell 0 (v := .slice x.dp x.D.length x.dc) rfl
    have HL0 : Hid (L1 x wA e uB (.slice none 0 0) [] 0 wz) := ⟨heb, ⟨World.ownsRow_nil wz _ _ 1, fun i d hi => by omega⟩, BldU.start hub, hg⟩
    go_upto_region 3 with fail
    clear b0 heb hub hg hmk
    generalize hdp : x.dp = dp at *
    have HDP := Lib.hid hdp
    clear hdp
    go_loopg [20] x.D.length (fun k i wr => ∃ j dv xs, j ≤ x.D.length ∧ k = x.D.length - j ∧ i = .int .i64 ((j : Nat) : Int) ∧ Hid (L1 x wA e uB dv xs j wr))
    case atStart => exact ⟨0, _, _, Nat.zero_le _, rfl, rfl, HL0⟩
    case round =>
      obtain ⟨j, dv, xs, hj, rfl, rfl, HL⟩ := hrel
      clear HL0
      by_cases hlt : j < x.D.length
      · have hrows := HX.out.rows.mono HG.out
        rw [HDP.out] at hrows
        obtain ⟨b, o, rfl, _, hr⟩ := hrows.resolve_left (fun e0 => by rw [e0] at hlt; simp at hlt)
        obtain ⟨d, hd⟩ : ∃ d, x.D[j]? = some d := ⟨_, List.getElem?_eq_getElem hlt⟩
        obtain ⟨q, cq, c0, hsl⟩ := hr j d hd
        replace c0 := HL.out.gr.at c0
        obtain ⟨dq, dcq, rfl⟩ := ownsRow_form HL.out.bd.row
        have HSL := Lib.hid hsl
        have HD := Lib.hid hd
        have HSH : Hid (d.length * 8 ≤ 140737488351232) := by have := HS.out d (List.mem_of_getElem? hd); show _ ≤ _; omega
        clear hr hd hsl
        generalize hw1 : wr = w1 at *
        clear hw1
        have HE2 := Lib.hid (HL.out.eblk.cell 2 (v := .slice dq j dcq) rfl)
        have HEN : Hid (¬ (Value.slice dq j dcq).ownBlock = some e) := fun hh => OfT.ne (ownsRow_type HL.out.bd.row hh).1 (.of HL.out.eblk) (by decide) rfl
        have HDL : Hid (∀ g, (Value.slice dq j dcq).ownBlock = some g → g < w1.heap.size) := fun g hh => (ownsRow_type HL.out.bd.row hh).1.lt
        have HKG : Hid (∀ W, Kp (fun b => (Value.slice dq j dcq).ownBlock = some b) w1 W → Gr wA W) := fun W hk => Below.trans HL.out.gr (hk.below (fun b hb => (ownsRow_type HL.out.bd.row hb).2) HL.out.gr.size)
        go_upto_region 5 with fail
        clear c0
        refine wp_region_relyA 11 [fx (.pointer (some ⟨e, 0, none⟩)), fx (.pointer (some ⟨e, 0, none⟩)), fx (.pointer (some ⟨e, 0, none⟩)), fx (.pointer (some ⟨e, 2, none⟩)), fx (.slice dq j dcq), fx (.slice q d.length cq), cpV wA.heap.size (Value.ownBlock (.slice dq j dcq)) d, cpsV wA.heap.size (Value.ownBlock (.slice dq j dcq)) d, slV, fx (.pointer (some ⟨e, 0, none⟩)), fx (.pointer (some ⟨e, 2, none⟩))]
          (Kp (fun b => (Value.ownBlock (.slice dq j dcq)) = some b)) (AppJ 8 32 (fun wz => BldD wA x.D (.slice dq j dcq) xs j wz) (fun v wz => ∃ u, BldD wA x.D v (xs ++ [u]) (j + 1) wz)) (by kernel_rfl) (by kernel_rfl) (by decide) (by kernel_rfl) (fun _ _ h => Kp.of_gr h) (fun _ _ _ h k => Kp.trans h k) (fun w h => AppJ.start _ _ (HL.out.bd.gr h)) (by repeat (first | exact StableR.nil | refine StableR.fix ?_ | refine StableR.cons cpV_stable ?_ | refine StableR.cons cpsV_stable ?_ | refine StableR.cons (fun _ _ _ h _ => h) ?_)) ?_ ?_
        · refine ⟨stepA_plain (fun _ _ h => Kp.of_gr h) (fun listed a w w' v h hg => AppJ.other (fun _ _ h k => h.gr k) (fun _ _ _ h k => h.imp fun _ h => h.gr k) rfl listed a w w' v h hg) ?_, stepA_plain (fun _ _ h => Kp.of_gr h) (fun listed a w w' v h hg => AppJ.other (fun _ _ h k => h.gr k) (fun _ _ _ h k => h.imp fun _ h => h.gr k) rfl listed a w w' v h hg) ?_, stepA_plain (fun _ _ h => Kp.of_gr h) (fun listed a w w' v h hg => AppJ.other (fun _ _ h k => h.gr k) (fun _ _ _ h k => h.imp fun _ h => h.gr k) rfl listed a w w' v h hg) ?_, stepA_plain (fun _ _ h => Kp.of_gr h) (fun listed a w w' v h hg => AppJ.other (fun _ _ h k => h.gr k) (fun _ _ _ h k => h.imp fun _ h => h.gr k) rfl listed a w w' v h hg) ?_, ?a4, stepA_plain (fun _ _ h => Kp.of_gr h) (fun listed a w w' v h hg => AppJ.other (fun _ _ h k => h.gr k) (fun _ _ _ h k => h.imp fun _ h => h.gr k) rfl listed a w w' v h hg) ?_, ?a6, ?a7, ?a8, stepA_plain (fun _ _ h => Kp.of_gr h) (fun listed a w w' v h hg => AppJ.other (fun _ _ h k => h.gr k) (fun _ _ _ h k => h.imp fun _ h => h.gr k) rfl listed a w w' v h hg) ?_, stepA_plain (fun _ _ h => Kp.of_gr h) (fun listed a w w' v h hg => AppJ.other (fun _ _ h k => h.gr k) (fun _ _ _ h k => h.imp fun _ h => h.gr k) rfl listed a w w' v h hg) ?_, trivial⟩
          case a4 =>
            intro listed fr wr hj hl hpre hg hdef hold
            have h3 : fr.tmps[3]?.getD undef = .pointer (some ⟨e, 0, none⟩) := hold 3 rfl
            have h5 : fr.tmps[5]?.getD undef = .slice q d.length cq := hold 5 rfl
            clear hold
            have q2 := Kp.cell hg HE2.out HEN.out
            clear hdef
            simp [predsImp, Region.binds, dstAt, fx]
            intros
            rename_i K hK
            go_simp
            exact hK _ _ rfl (Kp.of_gr (Gr.rfl' _)) (AppJ.other (fun _ _ h k => h.gr k) (fun _ _ _ h k => h.imp fun _ h => h.gr k) rfl listed fr wr wr _ hj (Gr.rfl' _))
          case a6 =>
            intro listed fr wr hj hl hpre hg hdef hold
            have h3 : fr.tmps[3]?.getD undef = .pointer (some ⟨e, 0, none⟩) := hold 3 rfl
            have h5 : fr.tmps[5]?.getD undef = .slice q d.length cq := hold 5 rfl
            clear hold
            clear hdef
            simp [predsImp, Region.binds, dstAt, fx]
            intros
            rename_i K hK
            go_simp
            have hgs : Gr wA wr := HKG.out _ hg
            have hsz := hg.size
            refine (clone_i64 q cq d wr (HSL.out.mono hgs) HSH.out).mono ?_
            rintro e1 w12 ⟨u, rfl, hu, hgu⟩
            exact hK _ _ ⟨ownsRow_base hu hgs.size, fun g hg1 hg2 => by have h1 := (ownsRow_type hu hg1).2; have h2 := HDL.out g hg2; omega⟩ (Kp.of_gr hgu) (AppJ.other (fun _ _ h k => h.gr k) (fun _ _ _ h k => h.imp fun _ h => h.gr k) rfl listed fr wr w12 _ hj hgu)
          case a7 =>
            intro listed fr wr hj hl hpre hg hdef hold
            have h3 : fr.tmps[3]?.getD undef = .pointer (some ⟨e, 0, none⟩) := hold 3 rfl
            have h5 : fr.tmps[5]?.getD undef = .slice q d.length cq := hold 5 rfl
            clear hold
            clear hdef
            simp [predsImp, Region.binds, dstAt]
            intro hc6
            intros
            rename_i K hK
            obtain ⟨p6, c6, h30⟩ := hc6.1.form
            rw [h30] at hc6
            go_simp
            have hsz := hg.size
            exact hK _ (wr.alloc (.cells #[.slice p6 d.length c6] 38)) ⟨_, _, rfl, BlkT.new _ _ _, fun hg2 => (by have h2 := HDL.out _ hg2; omega), cpV_stable _ _ _ hc6 (Kp.of_gr (by go_grown))⟩ (Kp.of_gr (by go_grown)) (AppJ.other (fun _ _ h k => h.gr k) (fun _ _ _ h k => h.imp fun _ h => h.gr k) rfl listed fr wr _ _ hj (by go_grown))
          case a8 =>
            intro listed fr wr hj hl hpre hg hdef hold
            have h3 : fr.tmps[3]?.getD undef = .pointer (some ⟨e, 0, none⟩) := hold 3 rfl
            have h5 : fr.tmps[5]?.getD undef = .slice q d.length cq := hold 5 rfl
            clear hold
            clear hdef
            simp [predsImp, Region.binds, dstAt, fx]
            intro h28 h31
            intros
            rename_i K hK
            obtain ⟨b, u, hv31, hbb, _, hcu⟩ := h31
            have hbd := hj.1 (getD_tf hl)
            have hgs : Gr wA wr := HKG.out _ hg
            obtain ⟨v', w', hrun, hbd', hkp⟩ := hbd.push HD.out hcu.1 (by have := HN.out; omega) hgs.size 22 b (hbb.cell 0 rfl)
            obtain ⟨p', c', rfl⟩ := ownsRow_form hbd'.row
            exact wp_append_run wr _ _ _ _ rfl _ _ (by simp [Act.eval, h28]) (by simp [Act.eval, hv31]) _ _ hrun (hK _ _ ⟨_, _, _, rfl⟩ hkp (AppJ.step hl ⟨u, hbd'⟩))
          all_goals
            intro fr wr hg hold
            have h3 : fr.tmps[3]?.getD undef = .pointer (some ⟨e, 0, none⟩) := hold 3 rfl
            have h5 : fr.tmps[5]?.getD undef = .slice q d.length cq := hold 5 rfl
            clear hold
            simp [predsImp, Region.binds, dstAt, fx]
            intros
            rename_i K hK
            go_simp
          all_goals exact hK _ _ rfl (Gr.rfl' _)
        · intro wz2 hg
          rintro _ rfl _ rfl _ rfl _ rfl _ rfl _ rfl _ - _ - _ ⟨q32, n32, c32, rfl⟩ _ rfl _ rfl hj2
          simp only [Act.put, List.setIfInBounds_toArray, List.set_cons_succ, List.set_cons_zero, List.drop_succ_cons, List.drop_zero] at hj2 ⊢
          obtain ⟨u, hbd⟩ := hj2.done (by show 8 < 11; omega) q32 n32 c32 rfl
          obtain ⟨pq2, cq2, hq2⟩ := ownsRow_form hbd.row
          cases hq2
          have heb := HL.out.eblk.kp hg HEN.out
          have hub := HL.out.bu.kp hg (τ := 38) (fun b hb => (ownsRow_type HL.out.bd.row hb).1) (by decide) (by decide)
          have hgz := HKG.out _ hg
          have ze := heb.cell 2 (v := .slice dq j dcq) rfl
          have zf := heb.open_ 2
          have hks : Kp (· = e) wz2 (wz2.setCell ⟨e, 2, none⟩ (.slice q32 (j + 1) c32)) := Kp.set rfl
          have het : ∀ b, b = e → OfT wz2 b 63 := fun b hb => by rw [hb]; exact .of heb
          have HL2 : Hid (L1 x wA e uB (.slice q32 (j + 1) c32) (xs ++ [u]) (j + 1) (wz2.setCell ⟨e, 2, none⟩ (.slice q32 (j + 1) c32))) := ⟨heb.set 2 _, hbd.kp hks het (by decide) (by decide), hub.kp hks het (by decide) (by decide), Below.trans hgz (hks.below (fun b hb => by rw [hb]; exact he0) hgz.size)⟩
          clear hj2 hbd heb hub hgz hks het hg
          go_wp2_with fail
          go_roundg (x.D.length - (j + 1))
          case measure => omega
          case rel => exact ⟨j + 1, _, _, by omega, rfl, by go_num, HL2⟩
      · obtain rfl : j = x.D.length := by omega
        have b1 := (HB.out.gr HL.out.gr).cell 1 (v := .slice x.cp x.C.length x.cc) rfl
        have HLL : Hid (L2 x wA e uB dv xs (List.replicate x.D.length (.slice none 0 0)) (List.replicate x.D.length []) 0 0 wr) := ⟨HL.out.eblk, HL.out.bd, HL.out.bu, HL.out.gr⟩
        have HXC := Lib.hid (HX.out.cns.mono HG.out)
        clear HL
        go_upto_region 8 with fail
        clear b1
        generalize hcp : x.cp = cp at *
        have HCP := Lib.hid hcp
        clear hcp
        go_loopg [39] x.C.length (fun k i wr => ∃ (j : Nat) (vv : List Value) (U : List (List Int)), j ≤ x.C.length ∧ k = x.C.length - j ∧ i = .int .i64 ((j : Nat) : Int) ∧ Hid (L2 x wA e uB dv xs vv U j 0 wr))
        case atStart => exact ⟨0, _, _, Nat.zero_le _, rfl, rfl, HLL⟩
        case round =>
          obtain ⟨j, vv, U, hj2, rfl, rfl, HL⟩ := hrel
          clear HLL
          by_cases hlt : j < x.C.length
          · obtain ⟨y, hy⟩ : ∃ y, x.C[j]? = some y := ⟨_, List.getElem?_eq_getElem hlt⟩
            have hyin : y ∈ x.C := List.mem_of_getElem? hy
            obtain ⟨cb, co, rfl, _, hcells⟩ := (HXC.out.mono HL.out.gr).resolve_left (fun e0 => by rw [e0] at hyin; exact (List.not_mem_nil hyin))
            have x0 := hcells _ y hy 0 (.int .i64 y.k) rfl
            have x1 := hcells _ y hy 1 (.slice y.vp y.vs.length y.vc) rfl
            have x2 := hcells _ y hy 2 (.slice y.cp y.cs.length y.cc) rfl
            have x3 := hcells _ y hy 3 (.int .i64 y.op) rfl
            have x4 := hcells _ y hy 4 (.int .i64 y.c) rfl
            simp only [← Nat.add_assoc, Nat.add_zero] at x0 x1 x2 x3 x4
            have HCJ := Lib.hid (show x.cons[j]? = some y.con by rw [Pb.cons, List.getElem?_map, hy]; rfl)
            have HYO := Lib.hid (HOK.out y.con (List.mem_of_getElem? HCJ.out))
            have HYV := Lib.hid (HX.out.ins y hyin).vars
            have hyl := HYV.out.1
            have hym := HYV.out.2.1
            clear hcells hy hyin
            go_upto_region 10 with fail
            have hBY := CnBlk.new wr y
            have gY : Gr wr (wr.alloc (.cells #[.int .i64 y.k, .slice y.vp y.vs.length y.vc, .slice y.cp y.cs.length y.cc, .int .i64 y.op, .int .i64 y.c] 42)) := by go_grown
            obtain ⟨bY, hbY⟩ : ∃ b, wr.heap.size = b := ⟨_, rfl⟩
            rw [hbY] at hBY ⊢
            generalize hwY : wr.alloc (.cells #[.int .i64 y.k, .slice y.vp y.vs.length y.vc, .slice y.cp y.cs.length y.cc, .int .i64 y.op, .int .i64 y.c] 42) = wY at *
            clear hwY
            have HLY := Lib.hid (HL.out.gr' gY)
            obtain ⟨y0, y1, y2, y3, y4⟩ := hBY.cells
            clear x0 x1 x2 x3 x4 gY hBY hbY
            generalize hyvs : y.vs = ys at *
            have HYS := Lib.hid hyvs
            generalize y.vp = yp at *
            generalize y.vc = yc at *
            clear hyvs
            go_upto_region 11 with fail
            clear y0 y1 y2 y3 y4
            go_loopg [47] ys.length (fun k i wl => ∃ (m : Nat) (vv : List Value) (U : List (List Int)), m ≤ ys.length ∧ k = ys.length - m ∧ i = .int .i64 ((m : Nat) : Int) ∧ Hid (L2 x wA e uB dv xs vv U j m wl))
            case atStart => exact ⟨0, vv, U, Nat.zero_le _, rfl, rfl, HLY⟩
            case round =>
              clear HLY HL
              obtain ⟨m, vv, U, hm, rfl, rfl, HL3⟩ := hrel
              by_cases hlt3 : m < ys.length
              · obtain ⟨v, hv⟩ : ∃ v, ys[m]? = some v := ⟨_, List.getElem?_eq_getElem hlt3⟩
                obtain ⟨b', o', rfl, _, hyr⟩ := (HYV.out.mono (HG.out.trans HL3.out.gr)).ptr (by omega)
                have c0 := hyr m v hv
                have HVM := Lib.hid (show y.con.vars[m]? = some v by rw [show y.con.vars = y.vs from rfl, HYS.out]; exact hv)
                obtain ⟨hv0, hvN⟩ := Con.ok_var HYO.out (List.mem_of_getElem? HVM.out)
                have HV0 := Lib.hid hv0
                obtain ⟨u, hu⟩ : ∃ u, U[v.toNat]? = some u := ⟨_, List.getElem?_eq_getElem (by rw [HL3.out.bu.lenU]; omega)⟩
                obtain ⟨vu, hvu⟩ : ∃ vu, vv[v.toNat]? = some vu := ⟨_, List.getElem?_eq_getElem (by rw [HL3.out.bu.lenV]; omega)⟩
                have hown := HL3.out.bu.own _ _ _ hvu hu
                obtain ⟨pu, cu, rfl⟩ := ownsRow_form hown
                have hbd := HL3.out.bu.bound hu
                have hCl : x.cons.length ≤ 100 := by rw [Pb.cons, List.length_map]; exact HC.out
                obtain ⟨_, husl⟩ := own_sl hown fun k hk => by have := hbd k hk; exact ⟨by omega, by omega⟩
                have HUL : Hid (u.length ≤ 1000) := by have := nodup_bound (HL3.out.bu.nd u (List.mem_of_getElem? hu)) hbd; show _ ≤ _; omega
                obtain ⟨ucells, hub, hus⟩ := HL3.out.bu.blk
                have u0 := hub.cell _ (hus _ _ hvu)
                have e3 := HL3.out.eblk.cell 3 (v := .slice (some ⟨uB, 0, none⟩) x.D.length x.D.length) rfl
                have HE3 := Lib.hid e3
                have HUC := Lib.hid u0
                have HEN : Hid (¬ (Value.slice pu u.length cu).ownBlock = some e) := fun hh => OfT.ne (ownsRow_type hown hh).1 (.of HL3.out.eblk) (by decide) rfl
                have HUN : Hid (¬ (Value.slice pu u.length cu).ownBlock = some uB) := fun hh => OfT.ne (ownsRow_type hown hh).1 (.of hub) (by decide) rfl
                have HDL : Hid (∀ g, (Value.slice pu u.length cu).ownBlock = some g → g < wr.heap.size) := fun g hh => (ownsRow_type hown hh).1.lt
                have HOT : Hid (∀ g, (Value.slice pu u.length cu).ownBlock = some g → OfT wr g 3 ∧ wA.heap.size ≤ g) := fun g hh => ownsRow_type hown hh
                have HL2S := Lib.hid HL3.out.gr.size
                have Hct := Lib.hid (fun W (hW : Gr wr W) => contains_int pu cu u (j : Int) W (husl.mono hW))
                obtain ⟨bb, hbb⟩ : ∃ bb, (u.any fun z => (j : Int) == z) = bb := ⟨_, rfl⟩
                rw [hbb] at Hct
                have HBB := Lib.hid hbb
                have HU := Lib.hid hu
                have HVU := Lib.hid hvu
                clear hv hyr hown hbd hCl husl hub hus hbb hu hvu
                cases bb with
                | true =>
                  have HMem : Hid ((j : Int) ∈ u) := by
                    show _ ∈ _
                    obtain ⟨z, hz, he⟩ := List.any_eq_true.1 HBB.out
                    rw [beq_iff_eq.1 he]; exact hz
                  have HSk := Lib.hid (HL3.out.bu.skip HCJ.out HVM.out HV0.out HU.out HMem.out)
                  go_wp2_with (first
                    | (go_at_call 49; refine (Hct.out _ (Gr.rfl' _)).mono ?_; rintro e1 w15 ⟨rfl, hb⟩; have HLN : Hid (L2 x wA e uB dv xs vv U j (m + 1) w15) := (L2.gr' ⟨HL3.out.eblk, HL3.out.bd, HSk.out, HL3.out.gr⟩ (show Gr wr w15 from hb)); clear hb c0 u0 e3)
                    | fail)
                  go_roundg (ys.length - (m + 1))
                  case measure => omega
                  case rel => exact ⟨m + 1, vv, U, by omega, rfl, by go_num, HLN⟩
                | false =>
                  have HNM : Hid ((j : Int) ∉ u) := fun hm => by
                    have h1 := HBB.out
                    rw [List.any_eq_false] at h1
                    exact h1 _ hm (by simp)
                  go_upto_region 14 with (first
                    | (go_at_call 49; refine (Hct.out _ (Gr.rfl' _)).mono ?_; rintro e1 w15 ⟨rfl, hb⟩; have hb : Gr wr w15 := hb; replace HL3 := Lib.hid (HL3.out.gr' hb); replace HE3 := Lib.hid (hb.at HE3.out); replace HUC := Lib.hid (hb.at HUC.out); replace HDL := Lib.hid (fun g hh => Nat.lt_of_lt_of_le (HDL.out g hh) hb.size); replace HOT := Lib.hid (fun g hh => And.intro ((HOT.out g hh).1.gr hb) (HOT.out g hh).2); replace HL2S := Lib.hid (Nat.le_trans HL2S.out hb.size); clear hb c0 u0 e3)
                    | fail)
                  refine wp_region_relyA 16 [fx (.pointer (some ⟨e, 0, none⟩)), fx (.pointer (some ⟨e, 0, none⟩)), fx (.pointer (some ⟨e, 3, none⟩)), fx (.slice (some ⟨uB, 0, none⟩) x.D.length x.D.length), fx (.int .i64 v), fx (.pointer (some ⟨e, 0, none⟩)), fx (.pointer (some ⟨e, 0, none⟩)), fx (.pointer (some ⟨e, 3, none⟩)), fx (.slice (some ⟨uB, 0, none⟩) x.D.length x.D.length), fx (.int .i64 v), fx (.pointer (some ⟨uB, v.toNat, none⟩)), fx (.slice pu u.length cu), fx (.int .i64 (j : Int)), numV (Value.ownBlock (.slice pu u.length cu)) j, slV, fx (.pointer (some ⟨uB, v.toNat, none⟩))]
                    (Kp (fun b => (Value.ownBlock (.slice pu u.length cu)) = some b)) (AppJ 14 75 (fun wz => BldU wA x.cons x.D.length uB vv U j m wz) (UP wA x uB vv U j m v.toNat u)) (by kernel_rfl) (by kernel_rfl) (by decide) (by kernel_rfl) (fun _ _ h => Kp.of_gr h) (fun _ _ _ h k => Kp.trans h k) (fun w h => AppJ.start _ _ (HL3.out.bu.gr h)) (by repeat (first | exact StableR.nil | refine StableR.fix ?_ | refine StableR.cons numV_stable ?_ | refine StableR.cons (fun _ _ _ h _ => h) ?_)) ?_ ?_
                  · refine ⟨stepA_plain (fun _ _ h => Kp.of_gr h) (fun listed a w w' v h hg => AppJ.other (fun _ _ h k => h.gr k) (fun _ _ _ h k => h.gr k) rfl listed a w w' v h hg) ?_, stepA_plain (fun _ _ h => Kp.of_gr h) (fun listed a w w' v h hg => AppJ.other (fun _ _ h k => h.gr k) (fun _ _ _ h k => h.gr k) rfl listed a w w' v h hg) ?_, stepA_plain (fun _ _ h => Kp.of_gr h) (fun listed a w w' v h hg => AppJ.other (fun _ _ h k => h.gr k) (fun _ _ _ h k => h.gr k) rfl listed a w w' v h hg) ?_, stepA_plain (fun _ _ h => Kp.of_gr h) (fun listed a w w' v h hg => AppJ.other (fun _ _ h k => h.gr k) (fun _ _ _ h k => h.gr k) rfl listed a w w' v h hg) ?_, stepA_plain (fun _ _ h => Kp.of_gr h) (fun listed a w w' v h hg => AppJ.other (fun _ _ h k => h.gr k) (fun _ _ _ h k => h.gr k) rfl listed a w w' v h hg) ?_, stepA_plain (fun _ _ h => Kp.of_gr h) (fun listed a w w' v h hg => AppJ.other (fun _ _ h k => h.gr k) (fun _ _ _ h k => h.gr k) rfl listed a w w' v h hg) ?_, stepA_plain (fun _ _ h => Kp.of_gr h) (fun listed a w w' v h hg => AppJ.other (fun _ _ h k => h.gr k) (fun _ _ _ h k => h.gr k) rfl listed a w w' v h hg) ?_, stepA_plain (fun _ _ h => Kp.of_gr h) (fun listed a w w' v h hg => AppJ.other (fun _ _ h k => h.gr k) (fun _ _ _ h k => h.gr k) rfl listed a w w' v h hg) ?_, stepA_plain (fun _ _ h => Kp.of_gr h) (fun listed a w w' v h hg => AppJ.other (fun _ _ h k => h.gr k) (fun _ _ _ h k => h.gr k) rfl listed a w w' v h hg) ?_, stepA_plain (fun _ _ h => Kp.of_gr h) (fun listed a w w' v h hg => AppJ.other (fun _ _ h k => h.gr k) (fun _ _ _ h k => h.gr k) rfl listed a w w' v h hg) ?_, stepA_plain (fun _ _ h => Kp.of_gr h) (fun listed a w w' v h hg => AppJ.other (fun _ _ h k => h.gr k) (fun _ _ _ h k => h.gr k) rfl listed a w w' v h hg) ?_, stepA_plain (fun _ _ h => Kp.of_gr h) (fun listed a w w' v h hg => AppJ.other (fun _ _ h k => h.gr k) (fun _ _ _ h k => h.gr k) rfl listed a w w' v h hg) ?_, stepA_plain (fun _ _ h => Kp.of_gr h) (fun listed a w w' v h hg => AppJ.other (fun _ _ h k => h.gr k) (fun _ _ _ h k => h.gr k) rfl listed a w w' v h hg) ?_, ?a13, ?a14, stepA_plain (fun _ _ h => Kp.of_gr h) (fun listed a w w' v h hg => AppJ.other (fun _ _ h k => h.gr k) (fun _ _ _ h k => h.gr k) rfl listed a w w' v h hg) ?_, trivial⟩
                    case a13 =>
                      intro listed fr wr hj hl hpre hg hdef hold
                      have h3 : fr.tmps[3]?.getD undef = .pointer (some ⟨e, 0, none⟩) := hold 3 rfl
                      have h9 : fr.tmps[9]?.getD undef = .int .i64 v := hold 9 rfl
                      have h6 : fr.tmps[6]?.getD undef = .int .i64 (j : Int) := hold 6 rfl
                      clear hold
                      have q3 := Kp.cell hg HE3.out HEN.out
                      have qu := Kp.cell hg HUC.out HUN.out
                      clear hdef
                      simp [predsImp, Region.binds, dstAt, fx]
                      intros
                      rename_i K hK
                      go_simp
                      have hsz := hg.size
                      exact hK _ (wr.alloc (.cells #[.int .i64 (j : Int)] 3)) ⟨_, rfl, BlkT.new _ _ _, fun hg2 => (by have h2 := HDL.out _ hg2; omega)⟩ (Kp.of_gr (by go_grown)) (AppJ.other (fun _ _ h k => h.gr k) (fun _ _ _ h k => h.gr k) rfl listed fr wr _ _ hj (by go_grown))
                    case a14 =>
                      intro listed fr wr hj hl hpre hg hdef hold
                      have h3 : fr.tmps[3]?.getD undef = .pointer (some ⟨e, 0, none⟩) := hold 3 rfl
                      have h9 : fr.tmps[9]?.getD undef = .int .i64 v := hold 9 rfl
                      have h6 : fr.tmps[6]?.getD undef = .int .i64 (j : Int) := hold 6 rfl
                      clear hold
                      have q3 := Kp.cell hg HE3.out HEN.out
                      have qu := Kp.cell hg HUC.out HUN.out
                      clear hdef
                      simp [predsImp, Region.binds, dstAt, fx]
                      intro h72 h74
                      intros
                      rename_i K hK
                      obtain ⟨b, hv74, hbb, _⟩ := h74
                      have hbu := hj.1 (getD_tf hl)
                      obtain ⟨v', w', hrun, hform, hkp, hup⟩ := hbu.push HCJ.out HVM.out HV0.out HU.out HNM.out HVU.out HUL.out (Nat.le_trans HL2S.out hg.size) 40 b (hbb.cell 0 rfl)
                      obtain ⟨p', c', rfl⟩ := hform
                      exact wp_append_run wr _ _ _ _ rfl _ _ (by simp [Act.eval, h72]) (by simp [Act.eval, hv74]) _ _ hrun (hK _ _ ⟨_, _, _, rfl⟩ hkp (AppJ.step hl ⟨⟨_, _, rfl⟩, hup⟩))
                    all_goals
                      intro fr wr hg hold
                      have h3 : fr.tmps[3]?.getD undef = .pointer (some ⟨e, 0, none⟩) := hold 3 rfl
                      have h9 : fr.tmps[9]?.getD undef = .int .i64 v := hold 9 rfl
                      have h6 : fr.tmps[6]?.getD undef = .int .i64 (j : Int) := hold 6 rfl
                      clear hold
                      have q3 := Kp.cell hg HE3.out HEN.out
                      have qu := Kp.cell hg HUC.out HUN.out
                      simp [predsImp, Region.binds, dstAt, fx]
                      intros
                      rename_i K hK
                      go_simp
                    all_goals exact hK _ _ rfl (Gr.rfl' _)
                  · intro wz3 hg
                    rintro _ rfl _ rfl _ rfl _ rfl _ rfl _ rfl _ rfl _ rfl _ rfl _ rfl _ rfl _ rfl _ rfl _ - _ ⟨q75, n75, c75, rfl⟩ _ rfl hj2
                    simp only [Act.put, List.setIfInBounds_toArray, List.set_cons_succ, List.set_cons_zero, List.drop_succ_cons, List.drop_zero] at hj2 ⊢
                    obtain ⟨⟨pz, cz, hqz⟩, hupz⟩ := hj2.done (by show 14 < 16; omega) q75 n75 c75 rfl
                    cases hqz
                    obtain ⟨⟨cells, hcb, hcl⟩, hbu⟩ := hupz wz3 (Gr.rfl' _)
                    have hbz : Gr wA wz3 := Below.trans HL3.out.gr (hg.below (fun b hb => (HOT.out b hb).2) HL3.out.gr.size)
                    have heb := HL3.out.eblk.kp hg HEN.out
                    have hbdz := HL3.out.bd.kp hg (τ := 3) (fun b hb => (HOT.out b hb).1) (by decide) (by decide)
                    obtain ⟨zc0, zc⟩ : ∃ z, wz3.cell? ⟨uB, v.toNat, none⟩ = some z := ⟨_, hcb.cell _ (Array.getElem?_eq_getElem hcl)⟩
                    have zf := hcb.open_ v.toNat
                    have hks : Kp (· = uB) wz3 (wz3.setCell ⟨uB, v.toNat, none⟩ (.slice q75 (u.length + 1) c75)) := Kp.set rfl
                    have hut : ∀ b, b = uB → OfT wz3 b 40 := fun b hb => by rw [hb]; exact .of hcb
                    have HLN : Hid (L2 x wA e uB dv xs (vv.set v.toNat (.slice q75 (u.length + 1) c75)) (U.set v.toNat (u ++ [(j : Int)])) j (m + 1) (wz3.setCell ⟨uB, v.toNat, none⟩ (.slice q75 (u.length + 1) c75))) := ⟨heb.kp hks fun hh => OfT.ne (.of heb) (hut _ hh) (by decide) rfl, hbdz.kp hks hut (by decide) (by decide), hbu, Below.trans hbz (hks.below (fun b hb => by rw [hb]; exact hu0) hbz.size)⟩
                    clear hj2 hupz hcb hcl hbu hbz heb hbdz hks hut hg
                    go_wp2_with fail
                    go_roundg (ys.length - (m + 1))
                    case measure => omega
                    case rel => exact ⟨m + 1, _, _, by omega, rfl, by go_num, HLN⟩
              · obtain rfl : m = ys.length := by omega
                have HLN : Hid (L2 x wA e uB dv xs vv U (j + 1) 0 wr) := ⟨HL3.out.eblk, HL3.out.bd, HL3.out.bu.next HCJ.out (by rw [show y.con.vars = y.vs from rfl, HYS.out]), HL3.out.gr⟩
                go_wp2_with fail
                go_roundg (x.C.length - (j + 1))
                case measure => omega
                case rel => exact ⟨j + 1, vv, U, by omega, rfl, by go_num, HLN⟩
          · obtain rfl : j = x.C.length := by omega
            have hcl : x.cons.length = x.C.length := List.length_map _
            have hbu := HL.out.bu
            rw [← hcl] at hbu
            obtain ⟨dB, hdB⟩ : ∃ dB, dB = dv.ownBlock.getD e := ⟨_, rfl⟩
            have hbase : ∀ {t : TypeId} {v : Value} {n : Nat} {l : List Value}, wr.ownsRow wA.heap.size t 1 v n l → wr.ownsRow w.heap.size t 1 v n l := fun h => ownsRow_base h HG.out.size
            have HFO : Hid (FamOk ⟨.slice x.dp x.D.length x.dc, x.cp, x.cc, x.C, x.D.length, U, vv, uB, x.D.length⟩ w) := ⟨HX.out.cns, HX.out.ins, fun y hy => HOK.out _ (List.mem_map.2 ⟨y, hy, rfl⟩), HX.out.lenC, HC.out, hbu.uses, by rw [hbu.lenV, hbu.lenU], ⟨HN.out, Nat.le_refl _, by have := HN.out; show x.D.length ≤ _; omega⟩, ⟨_, _, _, rfl⟩, hbu.apart⟩
            have HFW : Hid (FamW ⟨.slice x.dp x.D.length x.dc, x.cp, x.cc, x.C, x.D.length, U, vv, uB, x.D.length⟩ w wr) := ⟨HG.out.trans HL.out.gr, hbu.blk, fun i v u hv hu => hbase (hbu.own i v u hv hu), by have := HG.out.size; show _ ≤ uB; omega⟩
            have hrow := HL.out.bd.row
            have HEW : Hid (EngW ⟨.slice x.dp x.D.length x.dc, x.cp, x.cc, x.C, x.D.length, U, vv, uB, x.D.length⟩ w e dB x.D wr) := by
              obtain ⟨p, c, rfl⟩ := ownsRow_form hrow
              refine ⟨⟨p, c, HL.out.eblk, ?_, ?_, fun h0 => ?_⟩, rfl, fun h0 => ?_, HDN.out, HS.out, ⟨by have := HG.out.size; omega, ?_⟩⟩
              · rcases hrow.2 with ⟨_, h1⟩ | ⟨g, cap, cur, h1, _, _, h2, _⟩
                · omega
                · injection h1 with _ _ h3; omega
              · rcases hrow.2 with ⟨h1, _⟩ | ⟨g, cap, cur, h1, _, _, _, h2, _⟩
                · injection h1 with _ _ h3; omega
                · injection h1 with _ _ h3; simp only [maxLen] at h2; omega
              · rcases hrow.2 with ⟨_, h1⟩ | ⟨g, cap, cur, h1, _⟩
                · omega
                · injection h1 with h2
                  subst h2
                  rw [hdB]; rfl
              · rcases hrow.2 with ⟨_, h1⟩ | ⟨g, cap, cur, h1, _, h3, h4, _, h5, h6⟩
                · omega
                · injection h1 with h2
                  subst h2
                  have hdg : dB = g := by rw [hdB]; rfl
                  rw [hdg]
                  rw [Nat.mul_one] at h5 h6
                  refine ⟨cur, h3, fun i d hd => ?_⟩
                  have hil := (List.getElem?_eq_some_iff.1 hd).1
                  obtain ⟨v, h7, h8⟩ := HL.out.bd.each i d hil hd
                  refine ⟨v, ?_, hbase h8⟩
                  rw [← Array.getElem?_toList, ← List.getElem?_take_of_lt hil, h6]; exact h7
              · rw [hdB]
                cases ho : (Value.slice p x.D.length c).ownBlock with
                | none => have := HG.out.size; show _ ≤ e; omega
                | some g => have := (ownsRow_type hrow ho).2; have h2 := HG.out.size; show _ ≤ g; omega
            have HGR := Lib.hid (HG.out.trans HL.out.gr)
            clear hrow hbase hbu hcl hdB
            go_wp2_with fail
            exact hR.out _ e dB wr rfl rfl HFO.out HFW.out HEW.out HGR.out
end Go.Proofs.Ytbapmokbkjmdcaa
