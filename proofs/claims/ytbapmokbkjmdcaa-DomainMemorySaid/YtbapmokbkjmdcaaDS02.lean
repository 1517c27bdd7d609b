/-
  hornref.Solutions: the function that keeps each choice.
  hornref.Solutions: the walk.
-/
import Derived.Test.YtbapmokbkjmdcaaDS01
import Derived.Test.YtbapmokbkjmdcaaDR24
import Derived.Test.YtbapmokbkjmdcaaDO01
namespace Go.Proofs.Ytbapmokbkjmdcaa
open Go.RowKit Go.Maps Go.Lib

theorem chL_congr {C : List Con} {a b : Nat → Bool} : ∀ (ds : List (List Int)) (i : Nat) (g : Int → Option Int), (∀ k, i ≤ k → k < i + ds.length → a k = b k) → chL C a ds i g = chL C b ds i g
  | [], _, _, _ => rfl
  | d :: ds, i, g, h => by
    have ih := fun g => chL_congr (C := C) ds (i + 1) g fun k hk hk2 => h k (by omega) (by simp at hk2 ⊢; omega)
    rw [chL, chL, h i (Nat.le_refl _) (by simp), ih]
    congr 1
    congr 1
    funext x
    rw [ih]
/-- The numbers, read out of a row. -/
theorem rowG_now {now : List Int} {set : List Bool} (_ : set.length = now.length) (hs : ∀ k, k < now.length → set.getD k false = true) : rowG (gOf now set) 0 now.length = now := by
  apply List.ext_getElem (by simp [rowG])
  intro i h1 h2
  simp only [rowG, List.getElem_map, List.getElem_range, Nat.zero_add]
  rw [valG, gOf, if_pos ⟨by omega, by rw [Int.toNat_natCast]; exact hs i h2⟩, Option.getD_some, asg, Int.toNat_natCast, getD_lt 0 h2]
theorem feedS_map {α β γ : Type} (step : α → γ → α × Bool) (f : β → γ) : ∀ (a : α) (L : List β), feedS (fun a b => step a (f b)) a L = feedS step a (L.map f)
  | _, [] => rfl
  | a, b :: bs => by
    rw [List.map_cons, feedS, feedS, feedS_map]
/-- What is told so far, in the block bo; the block bn holds the numbers' row, which lies in the block bN; how many are wanted, in the block bm. -/
structure TellR (w1 : World) (N bo bm bn bN : Nat) (most : Int) (told : List (List Int)) (w : World) : Prop where
  row : ∃ ov xs, BlkT w bo 22 #[ov] ∧ BldD w1 told ov xs told.length w
  box : BlkT w bm 3 #[.int .i64 most]
  nbx : BlkT w bn 38 #[.slice (some ⟨bN, 0, none⟩) N N]
  ltm : bm < w1.heap.size ∧ bn < w1.heap.size
  each : ∀ s ∈ told, s.length = N ∧ ∀ y ∈ s, Near y
theorem TellR.stable {w1 : World} {N bo bm bn bN : Nat} {most : Int} {told : List (List Int)} {w w' : World} (h : TellR w1 N bo bm bn bN most told w) {C : Nat → Prop} (hk : Kp C w w') (hC : ∀ b, C b → b ≠ bo ∧ b ≠ bm ∧ b ≠ bn ∧ b < w1.heap.size) : TellR w1 N bo bm bn bN most told w' := by
  obtain ⟨ov, xs, h1, h2⟩ := h.row
  refine ⟨⟨ov, xs, h1.kp hk fun hc => (hC _ hc).1 rfl, ownsRow_kp h2.row hk fun g hg hc => by have := (hC _ hc).2.2.2; have := (ownsRow_type h2.row hg).2; omega, fun i d hi hd => ?_⟩, h.box.kp hk fun hc => (hC _ hc).2.1 rfl, h.nbx.kp hk fun hc => (hC _ hc).2.2.1 rfl, h.ltm, h.each⟩
  obtain ⟨v, h3, h4⟩ := h2.each i d hi hd
  exact ⟨v, h3, ownsRow_kp h4 hk fun g hg hc => by have := (hC _ hc).2.2.2; have := (ownsRow_type h4 hg).2; omega⟩
/-- A copy of the numbers. -/
theorem copy_nil (w : World) (B bN : Nat) (now : List Int) (hB : B ≤ w.heap.size) (hb : BlkT w bN 2 (ints now)) (hl : now.length ≤ 1000) (ty : TypeId) :
    ∃ v w', (Builtin.append_ #[38, 38] ty #[.slice none 0 0, .slice (some ⟨bN, 0, none⟩) now.length now.length]).run Try.prog w = .ok v w' ∧ IntsOwn w' B v now ∧ Gr w w' ∧ ∀ g, v.ownBlock = some g → w.heap.size ≤ g := by
  obtain ⟨i0, hi, hz0, hz1, hz2⟩ := info_parts infoI64
  by_cases h0 : now.length = 0
  · have hn : now = [] := List.eq_nil_of_length_eq_zero h0
    subst hn
    exact ⟨.slice none 0 0, w, run_append_empty w 38 ty 2 i0 Try.underlying38 hi none 0 0 (some ⟨bN, 0, none⟩) 0 (Nat.le_refl _), IntsOwn.nil _ _, Gr.rfl' _, fun g hg => by cases hg⟩
  · obtain ⟨v', w', hr, ho, hg, hob⟩ := run_append_own_fresh (P := Try.prog) w w.heap.size 38 ty 2 i0 (.int .i64 0) 1 8 Try.underlying38 hi hz0 hz1 hz2 rfl (by decide) (.slice none 0 0) 0 [] (World.ownsRow_nil w _ _ 1) ⟨bN, 0, none⟩ now.length now.length (now.map (.int .i64)) (by rw [List.length_map, Nat.mul_one]) (by
      intro j u hu
      rw [Go.WideShapes.add_plain, Nat.zero_add]
      exact hb.cell j (by rw [ints, List.getElem?_toArray]; exact hu)) (by
      intro u hu
      obtain ⟨y, _, rfl⟩ := List.mem_map.1 hu
      rfl) (by simp only [maxLen]; omega) (by omega) (Nat.le_refl _) (by omega)
    rw [Nat.zero_add, List.nil_append] at ho
    exact ⟨v', w', hr, ownsRow_base ho hB, grownBy_below hg (Nat.le_refl _) (fun k hk => by cases hk), fun g hg => (ownsRow_type ho hg).2⟩

set_option maxHeartbeats 8000000 in
set_option maxRecDepth 100000 in
theorem tellR_calls (w1 : World) (N bo bm bn bN : Nat) (most : Int) (told : List (List Int)) (now : List Int) (w : World) (h : TellR w1 N bo bm bn bN most told w) (hlv : (told.length : Int) < most) (hm : most ≤ 20000) (hg0 : w1.heap.size ≤ w.heap.size) (hN : BlkT w bN 2 (ints now)) (hl : now.length = N) (hfew : N ≤ 50) (hn : ∀ y ∈ now, Near y) (hbN : bN < w1.heap.size) :
    Calls Try.prog 41 #[.pointer (some ⟨bo, 0, none⟩), .pointer (some ⟨bn, 0, none⟩), .pointer (some ⟨bm, 0, none⟩)] w fun e w' => e = .returned (.bool (decide (((told ++ [now]).length : Int) < most))) ∧ TellR w1 N bo bm bn bN most (told ++ [now]) w' ∧ Kp (fun b => b = bo ∨ w1.heap.size ≤ b) w w' := by
  have hR : Hid (∀ c w', decide (((told ++ [now]).length : Int) < most) = c → TellR w1 N bo bm bn bN most (told ++ [now]) w' → Kp (fun b => b = bo ∨ w1.heap.size ≤ b) w w' → (fun (e : Ending) (w' : World) => e = .returned (.bool (decide (((told ++ [now]).length : Int) < most))) ∧ TellR w1 N bo bm bn bN most (told ++ [now]) w' ∧ Kp (fun b => b = bo ∨ w1.heap.size ≤ b) w w') (.returned (.bool c)) w') := fun c w' h1 h2 h3 => ⟨by rw [h1], h2, h3⟩
  generalize (fun (e : Ending) (w' : World) => e = .returned (.bool (decide (((told ++ [now]).length : Int) < most))) ∧ TellR w1 N bo bm bn bN most (told ++ [now]) w' ∧ Kp (fun b => b = bo ∨ w1.heap.size ≤ b) w w') = Q at hR ⊢
  have HT := Lib.hid h
  have HNB := Lib.hid hN
  have HL := Lib.hid hl
  have HNE := Lib.hid hn
  have HG0 := Lib.hid hg0
  have HM := Lib.hid (show told.length ≤ 1000000 by omega)
  have HFW := Lib.hid hfew
  obtain ⟨ov, xs, hb, hbd⟩ := h.row
  obtain ⟨po, co, rfl⟩ := ownsRow_form hbd.row
  have HBD : Hid (BldD w1 (told ++ [now]) (.slice po told.length co) xs told.length w) := ⟨hbd.row, fun i d hi hd => hbd.each i d hi (by rw [List.getElem?_append_left hi] at hd; exact hd)⟩
  have HDN := Lib.hid (show (told ++ [now])[told.length]? = some now by rw [List.getElem?_append_right (Nat.le_refl _), Nat.sub_self]; rfl)
  have HBO := Lib.hid hb
  have b0 := hb.cell 0 (v := .slice po told.length co) rfl
  have n0 := h.nbx.cell 0 (v := .slice (some ⟨bN, 0, none⟩) N N) rfl
  have HE0 := Lib.hid b0
  have HE1 := Lib.hid n0
  have HEO : Hid (¬ (Value.slice po told.length co).ownBlock = some bo) := fun hh => OfT.ne (ownsRow_type hbd.row hh).1 (.of hb) (by decide) rfl
  have HEN : Hid (¬ (Value.slice po told.length co).ownBlock = some bn) := fun hh => by have := (ownsRow_type hbd.row hh).2; have := h.ltm.2; omega
  have HEB : Hid (¬ (Value.slice po told.length co).ownBlock = some bN) := fun hh => by have := (ownsRow_type hbd.row hh).2; omega
  have HDL : Hid (∀ g, (Value.slice po told.length co).ownBlock = some g → g < w.heap.size ∧ w1.heap.size ≤ g) := fun g hh => ⟨(ownsRow_type hbd.row hh).1.lt, (ownsRow_type hbd.row hh).2⟩
  have HLN := Lib.hid (show ((told ++ [now]).length : Int) = (told.length : Int) + 1 by simp)
  rw [HLN.out] at hR
  clear h hN hl hn hg0 hm hfew hb hbd b0 n0
  go_enter Try.func41, Try.ntmps41
  try simp only [List.append_eq, List.cons_append, List.nil_append]
  go_upto_region 1 with fail
  refine wp_region_relyA 5 [fx (.slice po told.length co), fx (.slice (some ⟨bN, 0, none⟩) N N), cpV w1.heap.size (Value.ownBlock (.slice po told.length co)) now, cpsV w1.heap.size (Value.ownBlock (.slice po told.length co)) now, slV]
    (Kp (fun b => (Value.ownBlock (.slice po told.length co)) = some b)) (AppJ 4 8 (fun wz => BldD w1 (told ++ [now]) (.slice po told.length co) xs told.length wz) (fun v wz => ∃ u, BldD w1 (told ++ [now]) v (xs ++ [u]) (told.length + 1) wz)) (by kernel_rfl) (by kernel_rfl) (by decide) (by kernel_rfl) (fun _ _ h => Kp.of_gr h) (fun _ _ _ h k => Kp.trans h k) (fun w h => AppJ.start _ _ (HBD.out.gr h)) (by repeat (first | exact StableR.nil | refine StableR.fix ?_ | refine StableR.cons cpV_stable ?_ | refine StableR.cons cpsV_stable ?_ | refine StableR.cons (fun _ _ _ h _ => h) ?_)) ?_ ?_
  · refine ⟨?a0, ?a1, ?a2, ?a3, ?a4, trivial⟩
    case a0 =>
      intro listed fr wr hj hl hpre hg hdef hold
      have h0 : fr.tmps[0]?.getD undef = .pointer (some ⟨bo, 0, none⟩) := hold 0 rfl
      have h1 : fr.tmps[1]?.getD undef = .pointer (some ⟨bn, 0, none⟩) := hold 1 rfl
      clear hold
      have q2 := Kp.cell hg HE0.out HEO.out
      clear hdef
      simp [predsImp, fx]
      intros
      rename_i K hK
      go_simp
      exact hK _ _ rfl (Kp.of_gr (Gr.rfl' _)) (AppJ.other (fun _ _ h k => h.gr k) (fun _ _ _ h k => h.imp fun _ h => h.gr k) rfl listed fr wr wr _ hj (Gr.rfl' _))
    case a1 =>
      intro listed fr wr hj hl hpre hg hdef hold
      have h0 : fr.tmps[0]?.getD undef = .pointer (some ⟨bo, 0, none⟩) := hold 0 rfl
      have h1 : fr.tmps[1]?.getD undef = .pointer (some ⟨bn, 0, none⟩) := hold 1 rfl
      clear hold
      have q2 := Kp.cell hg HE1.out HEN.out
      clear hdef
      simp [predsImp, fx]
      intros
      rename_i K hK
      go_simp
      exact hK _ _ rfl (Kp.of_gr (Gr.rfl' _)) (AppJ.other (fun _ _ h k => h.gr k) (fun _ _ _ h k => h.imp fun _ h => h.gr k) rfl listed fr wr wr _ hj (Gr.rfl' _))
    case a2 =>
      intro listed fr wr hj hl hpre hg hdef hold
      have h0 : fr.tmps[0]?.getD undef = .pointer (some ⟨bo, 0, none⟩) := hold 0 rfl
      have h1 : fr.tmps[1]?.getD undef = .pointer (some ⟨bn, 0, none⟩) := hold 1 rfl
      clear hold
      clear hdef
      simp [predsImp, Region.binds, dstAt, fx]
      intro h5
      intros
      rename_i K hK
      have hNw := HNB.out.kp hg HEB.out
      have hsz := hg.size
      have hs0 := HG0.out
      obtain ⟨v', w', hrun, hown, hgr, hfr⟩ := copy_nil wr w1.heap.size bN now (by omega) hNw (by have := HL.out; have := HFW.out; omega) 38
      rw [HL.out] at hrun
      exact wp_append_run wr _ _ _ _ rfl _ _ (by simp [Act.eval]) (by simp [Act.eval, h5]) _ _ hrun (hK _ _ ⟨hown, fun g hg1 hg2 => by have h1 := hfr g hg1; have h2 := (HDL.out g hg2).1; omega⟩ (Kp.of_gr hgr) (AppJ.other (fun _ _ h k => h.gr k) (fun _ _ _ h k => h.imp fun _ h => h.gr k) rfl listed fr wr _ _ hj hgr))
    case a3 =>
      intro listed fr wr hj hl hpre hg hdef hold
      have h0 : fr.tmps[0]?.getD undef = .pointer (some ⟨bo, 0, none⟩) := hold 0 rfl
      have h1 : fr.tmps[1]?.getD undef = .pointer (some ⟨bn, 0, none⟩) := hold 1 rfl
      clear hold
      clear hdef
      simp [predsImp, Region.binds, dstAt]
      intro hc6
      intros
      rename_i K hK
      obtain ⟨p6, c6, h30⟩ := hc6.1.form
      rw [h30] at hc6
      go_simp
      have hsz := hg.size
      exact hK _ (wr.alloc (.cells #[.slice p6 now.length c6] 38)) ⟨_, _, rfl, BlkT.new _ _ _, fun hg2 => (by have h2 := (HDL.out _ hg2).1; omega), cpV_stable _ _ _ hc6 (Kp.of_gr (by go_grown))⟩ (Kp.of_gr (by go_grown)) (AppJ.other (fun _ _ h k => h.gr k) (fun _ _ _ h k => h.imp fun _ h => h.gr k) rfl listed fr wr _ _ hj (by go_grown))
    case a4 =>
      intro listed fr wr hj hl hpre hg hdef hold
      have h0 : fr.tmps[0]?.getD undef = .pointer (some ⟨bo, 0, none⟩) := hold 0 rfl
      have h1 : fr.tmps[1]?.getD undef = .pointer (some ⟨bn, 0, none⟩) := hold 1 rfl
      clear hold
      clear hdef
      simp [predsImp, Region.binds, dstAt, fx]
      intro h28 h31
      intros
      rename_i K hK
      obtain ⟨b, u, hv31, hbb, _, hcu⟩ := h31
      have hbd := hj.1 (getD_tf hl)
      have hsz := hg.size
      have hs0 := HG0.out
      obtain ⟨v', w', hrun, hbd', hkp, -⟩ := hbd.push' HDN.out hcu.1 HM.out (by omega) 22 b (hbb.cell 0 rfl)
      obtain ⟨p', c', rfl⟩ := ownsRow_form hbd'.row
      exact wp_append_run wr _ _ _ _ rfl _ _ (by simp [Act.eval, h28]) (by simp [Act.eval, hv31]) _ _ hrun (hK _ _ ⟨_, _, _, rfl⟩ hkp (AppJ.step hl ⟨u, hbd'⟩))
    all_goals
      intro fr wr hg hold
      have h0 : fr.tmps[0]?.getD undef = .pointer (some ⟨bo, 0, none⟩) := hold 0 rfl
      have h1 : fr.tmps[1]?.getD undef = .pointer (some ⟨bn, 0, none⟩) := hold 1 rfl
      clear hold
      simp [predsImp, Region.binds, dstAt, fx, wantedE, Act.eval]
      intros
      rename_i K hK
      go_simp
    all_goals exact hK _ _ rfl (Gr.rfl' _)
  · intro wz2 hg
    rintro _ rfl _ rfl _ - _ - _ ⟨q32, n32, c32, rfl⟩ hj2
    simp only [Act.put, List.setIfInBounds_toArray, List.set_cons_succ, List.set_cons_zero, List.drop_succ_cons, List.drop_zero] at hj2 ⊢
    obtain ⟨u, hbd⟩ := hj2.done (by show 4 < 5; omega) q32 n32 c32 rfl
    obtain ⟨pq2, cq2, hq2⟩ := ownsRow_form hbd.row
    cases hq2
    have hbo := HBO.out.kp hg HEO.out
    have z0 := hbo.cell 0 (v := .slice po told.length co) rfl
    have zf := hbo.open_ 0
    have hks : Kp (· = bo) wz2 (wz2.setCell ⟨bo, 0, none⟩ (.slice q32 (told.length + 1) c32)) := Kp.set rfl
    have hkt : Kp (fun b => b = bo ∨ w1.heap.size ≤ b) w (wz2.setCell ⟨bo, 0, none⟩ (.slice q32 (told.length + 1) c32)) := (hg.mono fun b hb => .inr (HDL.out b hb).2).trans (hks.mono fun b hb => .inl hb)
    have hbx := (HT.out.box.kp hkt fun hc => by
      rcases hc with hc | hc
      · exact OfT.ne (.of HT.out.box) (.of HBO.out) (by decide) hc
      · have := HT.out.ltm.1; omega)
    have HTF : Hid (TellR w1 N bo bm bn bN most (told ++ [now]) (wz2.setCell ⟨bo, 0, none⟩ (.slice q32 (told.length + 1) c32))) := ⟨⟨_, _, hbo.set 0 _, by
        rw [List.length_append]
        exact hbd.kp hks (τ := 22) (fun b hb => by rw [hb]; exact .of hbo) (by decide) (by decide)⟩, hbx, HT.out.nbx.kp hkt (fun hc => by
      rcases hc with hc | hc
      · exact OfT.ne (.of HT.out.nbx) (.of HBO.out) (by decide) hc
      · have := HT.out.ltm.2; omega), HT.out.ltm, fun s hs => (List.mem_append.1 hs).elim (HT.out.each s) fun hs => by rw [List.mem_singleton.1 hs]; exact ⟨HL.out, HNE.out⟩⟩
    have HKT := Lib.hid hkt
    have HB2 := Lib.hid (hbo.set 0 (.slice q32 (told.length + 1) c32))
    have HBX := Lib.hid hbx
    clear hj2 hbd hbo hks hkt hbx hg
    go_upto_region 2 with fail
    clear z0 zf
    generalize wz2.setCell ⟨bo, 0, none⟩ (.slice q32 (told.length + 1) c32) = wS at *
    have b0 := HB2.out.cell 0 (v := .slice q32 (told.length + 1) c32) rfl
    have m0 := HBX.out.cell 0 (v := .int .i64 most) rfl
    obtain ⟨c, hc⟩ : ∃ c, decide ((told.length : Int) + 1 < most) = c := ⟨_, rfl⟩
    have HC := Lib.hid hc
    go_wp2_with fail
    exact hR.out _ _ HC.out HTF.out HKT.out
end Go.Proofs.Ytbapmokbkjmdcaa

namespace Go.Proofs.Ytbapmokbkjmdcaa
open Go.RowKit Go.Maps Go.Lib

/-- A new row of n. -/
def slN (n B : Nat) : Value := .slice (some ⟨B, 0, none⟩) n n
theorem slN_ne (n B : Nat) : slN n B ≠ undef := fun e => by cases e
theorem slN_inj {n B B' : Nat} (h : slN n B = slN n B') : B = B' := by cases h; rfl
/-- Two rows that a drawn region makes (operations 3 and 7) are apart, and so are the slots that hold them later (operations 13 and 14). -/
structure SolJ (n : Nat) (listed : Array Bool) (a : Act) (w : World) : Prop where
  j1 : listed.getD 3 false = true → ∀ B, a.tmps[20]?.getD undef = slN n B → B < w.heap.size
  j2 : listed.getD 7 false = true → ∀ B, a.tmps[24]?.getD undef = slN n B → B < w.heap.size
  j3 : listed.getD 3 false = true → listed.getD 7 false = true → ∀ B, a.tmps[20]?.getD undef = slN n B → a.tmps[24]?.getD undef ≠ slN n B
  j4 : listed.getD 13 false = true → listed.getD 3 false = true ∧ ∀ B, a.tmps[10]?.getD undef = slN n B → a.tmps[20]?.getD undef = slN n B
  j5 : listed.getD 14 false = true → listed.getD 7 false = true ∧ ∀ B, a.tmps[11]?.getD undef = slN n B → a.tmps[24]?.getD undef = slN n B
theorem SolJ.start (n m : Nat) (a : Act) (w : World) : SolJ n (Array.replicate m false) a w := by
  have : ∀ i, (Array.replicate m false).getD i false = false := by
    intro i
    rw [Array.getD_eq_getD_getElem?, Array.getElem?_replicate]
    split <;> rfl
  refine ⟨fun h => ?_, fun h => ?_, fun h => ?_, fun h => ?_, fun h => ?_⟩ <;> (rw [this] at h; cases h)
theorem getD_set_eq {l : Array Bool} {i : Nat} (h : l.getD i true = false) : (l.setIfInBounds i true).getD i false = true := by
  have hs : i < l.size := by
    by_cases h' : i < l.size
    · exact h'
    · rw [Array.getD_eq_getD_getElem?, Array.getElem?_eq_none (by omega)] at h; cases h
  rw [Array.getD_eq_getD_getElem?, Array.getElem?_setIfInBounds_self_of_lt hs]; rfl
section
variable {n : Nat} {listed : Array Bool} {a : Act} {w w' : World} {v : Value}
theorem SolJ.other {i : Nat} {t : Option Tmp} (hi : (i != 3 && i != 7 && i != 13 && i != 14 && t != some 20 && t != some 24 && t != some 10 && t != some 11) = true) (listed : Array Bool) (a : Act) (w w' : World) (v : Value) (h : SolJ n listed a w) (hg : Gr w w') : SolJ n (listed.setIfInBounds i true) (a.put t v) w' := by
  simp only [Bool.and_eq_true, bne_iff_ne] at hi
  obtain ⟨⟨⟨⟨⟨⟨⟨h3, h7⟩, h13⟩, h14⟩, t20⟩, t24⟩, t10⟩, t11⟩ := hi
  refine ⟨?_, ?_, ?_, ?_, ?_⟩
  all_goals simp only [Go.getD_set_ne false h3, Go.getD_set_ne false h7, Go.getD_set_ne false h13, Go.getD_set_ne false h14, put_ne t20, put_ne t24, put_ne t10, put_ne t11]
  · exact fun a b c => Nat.lt_of_lt_of_le (h.j1 a b c) hg.size
  · exact fun a b c => Nat.lt_of_lt_of_le (h.j2 a b c) hg.size
  · exact h.j3
  · exact h.j4
  · exact h.j5
theorem SolJ.asked (h : SolJ n listed a w) (hl : listed.getD 3 true = false) (hg : Gr w w') {B : Nat} (h1 : w.heap.size ≤ B) (h2 : B < w'.heap.size) : SolJ n (listed.setIfInBounds 3 true) (a.put (some 20) (slN n B)) w' := by
  have hlf := getD_tf hl
  refine ⟨fun _ B' hB => ?_, ?_, fun _ k7 B' hB => ?_, ?_, ?_⟩
  · have := slN_inj (put_eq hB (slN_ne _ _)); omega
  · rw [Go.getD_set_ne false (by decide), put_ne (by decide)]
    exact fun a b c => Nat.lt_of_lt_of_le (h.j2 a b c) hg.size
  · rw [Go.getD_set_ne false (by decide)] at k7
    rw [put_ne (by decide)]
    have := slN_inj (put_eq hB (slN_ne _ _))
    intro e
    have := h.j2 k7 B' e
    omega
  · rw [Go.getD_set_ne false (by decide)]
    intro k
    have := (h.j4 k).1
    rw [hlf] at this; cases this
  · rw [Go.getD_set_ne false (by decide), Go.getD_set_ne false (by decide), put_ne (by decide), put_ne (by decide)]
    exact h.j5
theorem SolJ.set (h : SolJ n listed a w) (hl : listed.getD 7 true = false) (hg : Gr w w') {B : Nat} (h1 : w.heap.size ≤ B) (h2 : B < w'.heap.size) : SolJ n (listed.setIfInBounds 7 true) (a.put (some 24) (slN n B)) w' := by
  have hlf := getD_tf hl
  refine ⟨?_, fun _ B' hB => ?_, fun k3 _ B' hB e => ?_, ?_, ?_⟩
  · rw [Go.getD_set_ne false (by decide), put_ne (by decide)]
    exact fun a b c => Nat.lt_of_lt_of_le (h.j1 a b c) hg.size
  · have := slN_inj (put_eq hB (slN_ne _ _)); omega
  · rw [Go.getD_set_ne false (by decide)] at k3
    rw [put_ne (by decide)] at hB
    have := slN_inj (put_eq e (slN_ne _ _))
    have := h.j1 k3 B' hB
    omega
  · rw [Go.getD_set_ne false (by decide), Go.getD_set_ne false (by decide), put_ne (by decide), put_ne (by decide)]
    exact h.j4
  · rw [Go.getD_set_ne false (by decide)]
    intro k
    have := (h.j5 k).1
    rw [hlf] at this; cases this
theorem SolJ.put10 (h : SolJ n listed a w) (h3 : listed.getD 3 false = true) {B : Nat} (hv : a.tmps[20]?.getD undef = slN n B) : SolJ n (listed.setIfInBounds 13 true) (a.put (some 10) (slN n B)) w := by
  refine ⟨?_, ?_, ?_, fun _ => ?_, ?_⟩
  · rw [Go.getD_set_ne false (by decide), put_ne (by decide)]; exact h.j1
  · rw [Go.getD_set_ne false (by decide), put_ne (by decide)]; exact h.j2
  · rw [Go.getD_set_ne false (by decide), Go.getD_set_ne false (by decide), put_ne (by decide), put_ne (by decide)]; exact h.j3
  · rw [Go.getD_set_ne false (by decide), put_ne (t := 20) (by decide)]
    refine ⟨h3, fun B' hB => ?_⟩
    have := slN_inj (put_eq hB (slN_ne _ _))
    rw [hv, this]
  · rw [Go.getD_set_ne false (by decide), Go.getD_set_ne false (by decide), put_ne (by decide), put_ne (by decide)]; exact h.j5
theorem SolJ.put11 (h : SolJ n listed a w) (h7 : listed.getD 7 false = true) {B : Nat} (hv : a.tmps[24]?.getD undef = slN n B) : SolJ n (listed.setIfInBounds 14 true) (a.put (some 11) (slN n B)) w := by
  refine ⟨?_, ?_, ?_, ?_, fun _ => ?_⟩
  · rw [Go.getD_set_ne false (by decide), put_ne (by decide)]; exact h.j1
  · rw [Go.getD_set_ne false (by decide), put_ne (by decide)]; exact h.j2
  · rw [Go.getD_set_ne false (by decide), Go.getD_set_ne false (by decide), put_ne (by decide), put_ne (by decide)]; exact h.j3
  · rw [Go.getD_set_ne false (by decide), Go.getD_set_ne false (by decide), put_ne (by decide), put_ne (by decide)]; exact h.j4
  · rw [Go.getD_set_ne false (by decide), put_ne (t := 24) (by decide)]
    refine ⟨h7, fun B' hB => ?_⟩
    have := slN_inj (put_eq hB (slN_ne _ _))
    rw [hv, this]
theorem SolJ.done {m : Nat} (h : SolJ n (Array.replicate m true) a w) (hm : 14 < m) {B B' : Nat} (h1 : a.tmps[10]?.getD undef = slN n B) (h2 : a.tmps[11]?.getD undef = slN n B') : B ≠ B' := by
  have hl : ∀ i, i < m → (Array.replicate m true).getD i false = true := fun i hi => by
    rw [Array.getD_eq_getD_getElem?, Array.getElem?_replicate, if_pos hi]; rfl
  rintro rfl
  exact h.j3 (hl 3 (by omega)) (hl 7 (by omega)) B ((h.j4 (hl 13 (by omega))).2 B h1) ((h.j5 (hl 14 hm)).2 B h2)
end
def boxV (B0 : Nat) : VP := fun v w => ∃ B, v = .pointer (some ⟨B, 0, none⟩) ∧ B0 ≤ B ∧ BlkT w B 38 #[.slice none 0 0]
theorem boxV_stable {B0 : Nat} : ∀ v w w', boxV B0 v w → Gr w w' → boxV B0 v w' := fun _ _ _ ⟨B, h1, h2, h3⟩ hg => ⟨B, h1, h2, h3.gr hg⟩
/-- What Solutions says. -/
def RetSols (L : List (List Int)) (w : World) (en : Ending) (w' : World) : Prop := Gr w w' ∧ ∃ p c, en = .returned (.slice p L.length c) ∧ RowsBack w' p c L
theorem rep_set {n i : Nat} (h : i < n) : (List.replicate i true ++ List.replicate (n - i) false).set i true = List.replicate (i + 1) true ++ List.replicate (n - (i + 1)) false := by
  rw [List.set_append_right _ _ (by simp), List.length_replicate, Nat.sub_self, show n - i = (n - (i + 1)) + 1 by omega, List.replicate_succ, List.set_cons_zero, List.replicate_succ', List.append_assoc]; rfl
/-- The choices that the search makes, to what Solutions keeps. -/
def solE (x : Pb) (w1 : World) (bN bS bo bm bn bA : Nat) (most : Int) : ChE (List (List Int)) where
  w1 := w1
  C := fun b => b = bN ∨ b = bS ∨ b = bo
  bN := bN
  bS := bS
  n := x.D.length
  f := 41
  cap := #[.pointer (some ⟨bo, 0, none⟩), .pointer (some ⟨bn, 0, none⟩), .pointer (some ⟨bm, 0, none⟩)]
  st := TellR w1 x.D.length bo bm bn bN most
  step := fun told g => (told ++ [rowG g 0 x.D.length], decide (((told ++ [rowG g 0 x.D.length]).length : Int) < most))
  dp := x.dp
  dc := x.dc
  D := x.D
  lp := x.cp
  lc := x.cc
  L := x.C
  ap := some ⟨bA, 0, none⟩
  ac := x.D.length
  asked := List.replicate x.D.length true
  live := fun told => (told.length : Int) < most
theorem solE_ok {x : Pb} {w w1 : World} {bN bS bo bm bn bA : Nat} {most : Int} (hx : x.In w) (hg : Gr w w1) (hck : checkP x.D x.cons = 0) (hm : most ≤ 20000) (hA : BlkT w1 bA 4 (bools (List.replicate x.D.length true))) (hN : OfT w1 bN 2) (hS : OfT w1 bS 4) (hO : OfT w1 bo 22) (hM : OfT w1 bm 3) (hB : OfT w1 bn 38) (hAS : bA ≠ bS) (g1 : w.heap.size ≤ bN) (g2 : w.heap.size ≤ bS) (g3 : w.heap.size ≤ bo) : ChOk (solE x w1 bN bS bo bm bn bA most) := by
  obtain ⟨c1, c2, c3, c4, c5⟩ := check_zero hck
  have hgr : ∀ w', Kp (fun b => b = bN ∨ b = bS ∨ b = bo) w1 w' → Gr w w' := fun w' hk => Below.trans hg (hk.below (fun b hb => by rcases hb with rfl | rfl | rfl <;> assumption) hg.size)
  refine {
    inp := fun w' hk => ?_, cN := .inl rfl, cS := .inr (.inl rfl), ne := OfT.ne hN hS (by decide), lenD := rfl, lenA := List.length_replicate .., few := c3, ok := fun y hy => c2 _ (List.mem_map.2 ⟨y, hy, rfl⟩)
    near := fun d hd => (okDom_rise (c1 d hd)).2, enter := fun w => by kernel_rfl, call := fun a w' now set hlv hst hw hset => ?_, stable := fun a w' w'' hst hk => ?_, liv := fun a g _ h => of_decide_eq_true (p := ((a ++ [rowG g 0 x.D.length]).length : Int) < most) h }
  · have hi := hx.mono (hgr w' hk)
    have hA' : BlkT w' bA 4 (bools (List.replicate x.D.length true)) := hA.kp hk fun hc => by
      rcases hc with hc | hc | hc
      · exact OfT.ne (.of hA) hN (by decide) hc
      · exact hAS hc
      · exact OfT.ne (.of hA) hO (by decide) hc
    have := bools_sl hA' (by rw [List.length_replicate]; omega)
    rw [List.length_replicate] at this
    exact ⟨hi.rows, hi.lenD, hi.cns, hi.lenC, hi.ins, this⟩
  · have hst : TellR w1 x.D.length bo bm bn bN most a w' := hst
    have hl : now.length = x.D.length := hw.lenN
    have hrow : rowG (gOf now set) 0 x.D.length = now := by
      rw [← hl]
      refine rowG_now (by rw [hw.lenS, hw.lenN]) fun k hk => hset k (by rw [← hw.lenN]; exact hk) ?_
      rw [getD_lt false (by show _ < (List.replicate x.D.length true).length; rw [List.length_replicate]; omega)]
      exact List.getElem_replicate ..
    refine Calls.mono (show Calls Try.prog 41 #[.pointer (some ⟨bo, 0, none⟩), .pointer (some ⟨bn, 0, none⟩), .pointer (some ⟨bm, 0, none⟩)] w' _ from tellR_calls w1 x.D.length bo bm bn bN most a now w' hst hlv hm hw.kp.size hw.bn hl c3 hw.near hN.lt) ?_
    rintro e w'' ⟨h1, h2, h3⟩
    have hne : ∀ {b : Nat} {t : TypeId} {vs : Array Value}, BlkT w' b t vs → t ≠ 22 → b < w1.heap.size → ¬ (b = bo ∨ w1.heap.size ≤ b) := fun {b t vs} hb ht hlt hc => by
      rcases hc with hc | hc
      · obtain ⟨ov, xs, ho, _⟩ := hst.row
        exact OfT.ne (.of hb) (.of ho) ht hc
      · omega
    refine ⟨?_, ?_, ⟨hw.kp.more h3 fun b hb hc => ?_, hw.bn.kp h3 (hne hw.bn (by decide) hN.lt), hw.bs.kp h3 (hne hw.bs (by decide) hS.lt), hw.lenN, hw.lenS, hw.near⟩⟩
    · rw [h1]; show _ = Ending.returned (.bool (decide (((a ++ [rowG (gOf now set) 0 x.D.length]).length : Int) < most))); rw [hrow]
    · show TellR w1 x.D.length bo bm bn bN most (a ++ [rowG (gOf now set) 0 x.D.length]) w''
      rw [hrow]; exact h2
    · rcases hc with hc | hc
      · exact .inr (.inr hc)
      · have hb : b < w1.heap.size := hb
        omega
  · refine TellR.stable hst hk fun b hb => ?_
    rcases hb with rfl | rfl
    · exact ⟨OfT.ne hN hO (by decide), OfT.ne hN hM (by decide), OfT.ne hN hB (by decide), hN.lt⟩
    · exact ⟨OfT.ne hS hO (by decide), OfT.ne hS hM (by decide), OfT.ne hS hB (by decide), hS.lt⟩
end Go.Proofs.Ytbapmokbkjmdcaa
