/-
  The store's walk.
  slices.ContainsFunc of terms; the store's within.
-/
import Derived.Test.YtjdoflfdlhpbmaaGreatBF23
namespace Go.Proofs.YtjdoflfdlhpbmaaGreat
open Go.RowKit Go.Maps Go.Lib

def RetWalk (S : Nat → Prop) (σ : Int → Option T) (ρ : Int → T) (t : T) (w : World) (e : Ending) (w' : World) : Prop := ∃ u : Tm, e = .returned u.val ∧ u.In w' ∧ u.On S ∧ WalkTo σ ρ t u.erase ∧ Gr w w'

theorem step_walk {σ : Int → Option T} {ρ : Int → T} (ho : StoreOk σ ρ) {t u : T} {x : Int} (hu : u.formed = true) (hk : u.k = 1) (hx : u.n = x) (hs : σ x = some t) : t.formed = true ∧ T.map ρ t = T.map ρ u ∧ (t.k = 1 → t.n < x) := by
  obtain ⟨h1, h2, h3, h4⟩ := ho.bound x t hs
  have h5 := var_of_k hu hk
  rw [hx] at h5
  refine ⟨h1, ?_, fun hk' => h4 _ (var_of_k h1 hk')⟩
  rw [h5, T.map_var, h3]

set_option maxHeartbeats 2000000 in
set_option maxRecDepth 100000 in
theorem walk_calls {S : Nat → Prop} {B : Nat} {w : World} {P M : Nat} {vt vm : Value} {σ : Int → Option T} {tr mk : List Int} {ρ : Int → T} (hs : SM S B w P M vt vm σ tr mk) (ho : StoreOk σ ρ) (t : Tm) (ht : t.In w) (hon : t.On S) (hf : t.erase.formed = true) :
    Calls Tryz.prog 68 #[.pointer (some ⟨P, 0, none⟩), t.val] w (RetWalk S σ ρ t.erase w) := by
  have HS := Lib.hid hs
  have HO := Lib.hid ho
  have Ht := Lib.hid ht
  have Hon := Lib.hid hon
  have Hf := Lib.hid hf
  have hPl := hs.blk.lt
  have hMl := hs.map.lt
  have HSl : Hid (∀ b, S b → b < w.heap.size) := fun b hb => (hs.sepS b hb).1
  have hQ0 : Hid (∀ (u : Tm) w', u.In w' → u.On S → WalkTo σ ρ t.erase u.erase → Gr w w' → RetWalk S σ ρ t.erase w (.returned u.val) w') := fun u w' h1 h2 h3 h4 => ⟨u, rfl, h1, h2, h3, h4⟩
  generalize RetWalk S σ ρ t.erase w = Q at hQ0 ⊢
  have HQ := hQ0
  clear hs ho ht hon hf hQ0
  rw [show t.val = .agg #[.int .i64 t.k, .int .i64 t.n, .string t.s, .slice t.p t.l.length t.c] from rfl]
  go_enter Tryz.func68, Tryz.ntmps68
  try simp only [List.append_eq, List.cons_append, List.nil_append]
  go_wp2_with fail
  obtain ⟨HB, HR, gA⟩ := two_blocks w (.int .i64 t.k) (.int .i64 t.n) (.string t.s) (.slice t.p t.l.length t.c) (.int .i64 0) (.int .i64 0) (.string ⟨#[]⟩) (.slice none 0 0)
  generalize (w.alloc (.cells #[.int .i64 t.k, .int .i64 t.n, .string t.s, .slice t.p t.l.length t.c] 24)).alloc (.cells #[.int .i64 0, .int .i64 0, .string ⟨#[]⟩, .slice none 0 0] 24) = wA at *
  have HBt : Hid (BlkTm wA w.heap.size t) := HB.out
  clear HB
  have sA : w.heap.size + 1 < wA.heap.size := HR.out.parts.2.2
  go_loopg [] (if t.k = 1 then t.n.toNat + 1 else 0) (fun m wr => ∃ u : Tm, m = (if u.k = 1 then u.n.toNat + 1 else 0) ∧ Hid (BlkTm wr w.heap.size u) ∧ Hid (Blk4 wr (w.heap.size + 1) (.int .i64 0) (.int .i64 0) (.string ⟨#[]⟩) (.slice none 0 0)) ∧ Hid (u.In wr) ∧ Hid (u.On S) ∧ Hid (u.erase.formed = true ∧ T.map ρ u.erase = T.map ρ t.erase) ∧ Gr w wr ∧ w.heap.size + 1 < wr.heap.size)
  case atStart => exact ⟨t, rfl, HBt, HR, Tm.In_below gA Ht.out, Hon, ⟨Hf.out, rfl⟩, gA, sA⟩
  case round =>
    clear HBt HR sA gA
    obtain ⟨u, rfl, hbu, hbr, hin, hou, hfu, gr, sr⟩ := hrel
    obtain ⟨⟨x0, x1, x2, x3⟩, ⟨f0, f1, f2, f3⟩, _⟩ := Blk4.parts hbu.out
    obtain ⟨⟨y0, y1, y2, y3⟩, ⟨g0, g1, g2, g3⟩, _⟩ := hbr.out.parts
    by_cases hk : u.k = 1
    · have hk2 : (u.k == 1) = true := by simp [hk]
      have hn64 : In64 u.n := by
        have := hin.out
        cases u with
        | mk k n s p c l => rw [Tm.In] at this; exact this.2.1
      have hsm := HS.out.gr gr
      obtain ⟨v, x, hrun, hcase⟩ := hsm.map.look hn64
      have hpb := hsm.blk.cell 0 (v := .map (some M)) rfl
      have Hrun := Lib.hid (fun ww hk h => hrun (fun b => wr.heap.size ≤ b) ww hk h)
      have Hcase := Lib.hid hcase
      have Hvv := Lib.hid (show v.val = .agg #[.int .i64 v.k, .int .i64 v.n, .string v.s, .slice v.p v.l.length v.c] from rfl)
      clear hrun hcase hsm f0 f1 f2 f3 y0 y1 y2 y3 g0 g1 g2 g3
      have nP : ¬ (wr.heap.size ≤ P) := by have := gr.size; omega
      have nM : ¬ (wr.heap.size ≤ M) := by have := gr.size; omega
      have nH : ¬ (wr.heap.size ≤ w.heap.size) := by omega
      have Hk := Lib.hid hk
      go_upto_region 2 with fail
      refine wp_region_relyA 13 [fx (.pointer (some ⟨P, 0, none⟩)), fx (.pointer (some ⟨P, 0, none⟩)), fx (.pointer (some ⟨P, 0, none⟩)), fx (.map (some M)), fx (.pointer (some ⟨w.heap.size, 1, none⟩)), fx (.int .i64 u.n), fx (.tuple #[.agg #[.int .i64 v.k, .int .i64 v.n, .string v.s, .slice v.p v.l.length v.c], .bool x]), fx (.tuple #[.agg #[.int .i64 v.k, .int .i64 v.n, .string v.s, .slice v.p v.l.length v.c], .bool x]), fx (.agg #[.int .i64 v.k, .int .i64 v.n, .string v.s, .slice v.p v.l.length v.c]), fx (.bool x), ptrV, fx undef, fx (.bool x)]
        (Kp (fun b => wr.heap.size ≤ b)) (LateJ wr.heap.size [⟨10, 5, 11, v⟩] 13 24) (by kernel_rfl) (by kernel_rfl) (by decide) (by kernel_rfl) (fun _ _ h => Kp.of_gr h) (fun _ _ _ h k => Kp.trans h k) (fun w _ => LateJ.start _ _ _ _ _ w rfl) (by repeat (first | exact StableR.nil | refine StableR.fix ?_ | refine StableR.cons ptrV_stable ?_)) ?_ ?_
      · refine ⟨stepA_plain (fun _ _ h => Kp.of_gr h) (fun listed a w w' v h hg => LateJ.other rfl listed a w w' v h hg) ?_, stepA_plain (fun _ _ h => Kp.of_gr h) (fun listed a w w' v h hg => LateJ.other rfl listed a w w' v h hg) ?_, stepA_plain (fun _ _ h => Kp.of_gr h) (fun listed a w w' v h hg => LateJ.other rfl listed a w w' v h hg) ?_, stepA_plain (fun _ _ h => Kp.of_gr h) (fun listed a w w' v h hg => LateJ.other rfl listed a w w' v h hg) ?_, stepA_plain (fun _ _ h => Kp.of_gr h) (fun listed a w w' v h hg => LateJ.other rfl listed a w w' v h hg) ?_, stepA_plain (fun _ _ h => Kp.of_gr h) (fun listed a w w' v h hg => LateJ.other rfl listed a w w' v h hg) ?_, stepA_plain (fun _ _ h => Kp.of_gr h) (fun listed a w w' v h hg => LateJ.other rfl listed a w w' v h hg) ?_, stepA_plain (fun _ _ h => Kp.of_gr h) (fun listed a w w' v h hg => LateJ.other rfl listed a w w' v h hg) ?_, stepA_plain (fun _ _ h => Kp.of_gr h) (fun listed a w w' v h hg => LateJ.other rfl listed a w w' v h hg) ?_, stepA_plain (fun _ _ h => Kp.of_gr h) (fun listed a w w' v h hg => LateJ.other rfl listed a w w' v h hg) ?_, ?a10, ?a11, stepA_plain (fun _ _ h => Kp.of_gr h) (fun listed a w w' v h hg => LateJ.other rfl listed a w w' v h hg) ?_, trivial⟩
        case a10 =>
          intro listed fr ww hj hl hpre hg hdef hold
          have h0 : fr.tmps[0]?.getD undef = .pointer (some ⟨P, 0, none⟩) := hold 0 rfl
          have h3 : fr.tmps[3]?.getD undef = .pointer (some ⟨w.heap.size, 0, none⟩) := hold 3 rfl
          have zp := Kp.cell hg hpb nP
          have z1 := Kp.cell hg x1 nH
          have hlook := Hrun.out ww hg nM
          rw [Hvv.out] at hlook
          clear hold hpb x0 x1 x2 x3
          have hl := getD_tf hl
          clear hdef
          simp only [predsImp]
          intro K hK
          go_simp
          exact hK _ _ ⟨_, rfl⟩ (Kp.of_gr (by go_grown)) (LateJ.alloc rfl hj hl (by go_grown) hg.size (Nat.le_refl _) (by simp) (Blk4.new _ _ _ _ _) (show (5 : Nat) < 24 by decide) (show (10 : Nat) < 13 by decide))
        case a11 =>
          intro listed fr ww hj hl hpre hg hdef hold
          have h0 : fr.tmps[0]?.getD undef = .pointer (some ⟨P, 0, none⟩) := hold 0 rfl
          have h3 : fr.tmps[3]?.getD undef = .pointer (some ⟨w.heap.size, 0, none⟩) := hold 3 rfl
          have zp := Kp.cell hg hpb nP
          have z1 := Kp.cell hg x1 nH
          have hlook := Hrun.out ww hg nM
          rw [Hvv.out] at hlook
          clear hold hpb x0 x1 x2 x3
          have hl := getD_tf hl
          clear hdef
          simp [predsImp, Region.binds, dstAt, fx]
          intros
          rename_i K hK
          obtain ⟨B, hB, hB0, hBl, hz, -⟩ := hj.blk ⟨10, 5, 11, v⟩ (by simp) (hpre ⟨10, Ground.data⟩ (by simp) rfl)
          simp only at hB hz
          have Hz := Lib.hid (hz hl)
          obtain ⟨⟨p0, p1, p2, p3⟩, ⟨f0, f1, f2, f3⟩, _⟩ := (hz hl).parts
          clear hz
          go_simp
          exact hK _ _ rfl (Kp.sets hB0 _ _ _ _) (LateJ.store (x0 := ⟨10, 5, 11, v⟩) (by simp) rfl rfl (by intro x hx h; simp only [List.mem_cons, List.mem_nil_iff, or_false] at hx; exact hx) hj (hpre ⟨10, Ground.data⟩ (by simp) rfl) hB (Kp.sets (C := (· = B)) rfl _ _ _ _) (Blk4.sets Hz.out _ _ _ _) _ (show (11 : Nat) < 13 by decide))
        all_goals
          intro fr ww hg hold
          have h0 : fr.tmps[0]?.getD undef = .pointer (some ⟨P, 0, none⟩) := hold 0 rfl
          have h3 : fr.tmps[3]?.getD undef = .pointer (some ⟨w.heap.size, 0, none⟩) := hold 3 rfl
          have zp := Kp.cell hg hpb nP
          have z1 := Kp.cell hg x1 nH
          have hlook := Hrun.out ww hg nM
          rw [Hvv.out] at hlook
          clear hold hpb x0 x1 x2 x3
          simp [predsImp, Region.binds, dstAt, fx]
          intros
          rename_i K hK
          go_simp
        all_goals exact hK _ _ rfl (Gr.rfl' _)
      · intro w9 hg
        rintro _ rfl _ rfl _ rfl _ rfl _ rfl _ rfl _ rfl _ rfl _ rfl _ rfl _ ⟨P5, rfl⟩ _ rfl _ rfl hap
        simp only [Act.put, List.setIfInBounds_toArray, List.set_cons_succ, List.set_cons_zero, List.drop_succ_cons, List.drop_zero] at hap ⊢
        obtain ⟨hP5, hP50⟩ := hap.done (x := ⟨10, 5, 11, v⟩) (by simp) (show (10 : Nat) < 13 by decide) (show (11 : Nat) < 13 by decide) (B := P5) rfl
        have g9 : Gr wr w9 := hg.below (fun b hb => hb) (Nat.le_refl _)
        have hbu9 := Lib.hid (Blk4.gr hbu.out g9)
        have hbr9 := Lib.hid (hbr.out.gr g9)
        have hin9 := Lib.hid (Tm.In_below g9 hin.out)
        have gw9 : Gr w w9 := gr.trans g9
        have s9 : w.heap.size + 1 < w9.heap.size := Nat.lt_of_lt_of_le sr g9.size
        clear hap hg hpb x0 x1 x2 x3
        obtain ⟨⟨x0, x1, x2, x3⟩, ⟨f0, f1, f2, f3⟩, _⟩ := Blk4.parts hbu9.out
        obtain ⟨⟨y0, y1, y2, y3⟩, ⟨g0, g1, g2, g3⟩, _⟩ := hbr9.out.parts
        rcases Hcase.out with ⟨rfl, hno, -⟩ | ⟨rfl, tt, hso, iv, ev, fv, ov⟩
        · have Hwk : Hid (WalkTo σ ρ t.erase u.erase) := ⟨hfu.out.1, hfu.out.2, fun _ => by rw [Tm.erase_n]; exact hno⟩
          clear hno f0 f1 f2 f3 hP5
          go_wp2_with fail
          have k1 := fun a b c d => Kp.sets (C := (· = w.heap.size + 1)) (w := w9) (b := w.heap.size + 1) rfl a b c d
          exact bodyPost_ret (v := u.val) (by simp (maxDischargeDepth := 9) [results, Tryz.results68, go_sem, Tm.val, y0, y1, y2, y3, Hk.out]) rfl (HQ.out u _ (kp_in hin9.out hou.out (fun b hb => by have := HSl.out b hb; omega) (k1 _ _ _ _)) hou.out Hwk.out (Below.trans gw9 ((k1 _ _ _ _).below (fun b hb => by omega) gw9.size)))
        · have hst := step_walk HO.out hfu.out.1 (by rw [Tm.erase_k]; exact Hk.out) (Tm.erase_n u) hso
          have Hst : Hid (v.erase.formed = true ∧ T.map ρ v.erase = T.map ρ t.erase) := ⟨by rw [ev]; exact fv, by rw [ev, hst.2.1]; exact hfu.out.2⟩
          have Hms : Hid (v.k = 1 → 0 ≤ v.n ∧ v.n < u.n) := fun hv => by
            have h1 := hst.2.2 (by rw [← ev, Tm.erase_k]; exact hv)
            rw [← ev, Tm.erase_n] at h1
            have hvf : v.erase.formed = true := by rw [ev]; exact fv
            have h2 := var_of_k hvf (by rw [Tm.erase_k]; exact hv)
            have h3 := T.occ_range (n := v.erase.n) v.erase hvf (by rw [h2]; exact T.occ_var.2 rfl)
            rw [Tm.erase_n] at h3
            exact ⟨h3.1, h1⟩
          have Hun : Hid (0 ≤ u.n) := (HO.out.bound _ _ hso).2.1.1
          obtain ⟨⟨p0, p1, p2, p3⟩, _, _⟩ := Blk4.parts hP5
          have hne5 : P5 ≠ w.heap.size := by omega
          have hne5' : P5 ≠ w.heap.size + 1 := by omega
          have Iv := Lib.hid (Tm.In_below g9 iv)
          have Ov := Lib.hid ov
          clear hso iv ev fv ov hst hP5 y0 y1 y2 y3 g0 g1 g2 g3
          go_wp2_with fail
          have k1 : Kp (· = w.heap.size) w9 _ := Kp.sets (C := (· = w.heap.size)) (w := w9) (b := w.heap.size) rfl (.int .i64 v.k) (.int .i64 v.n) (.string v.s) (.slice v.p v.l.length v.c)
          have hv2 : Hid (BlkTm _ w.heap.size v) := Blk4.sets hbu9.out (.int .i64 v.k) (.int .i64 v.n) (.string v.s) (.slice v.p v.l.length v.c)
          have hr2 := Lib.hid (Blk4.kp hbr9.out k1 (by omega))
          have i2 := Lib.hid (kp_in Iv.out Ov.out (fun b hb => by have := HSl.out b hb; omega) k1)
          have gz : Gr w _ := Below.trans gw9 (k1.below (fun b hb => by omega) gw9.size)
          go_roundg (if v.k = 1 then v.n.toNat + 1 else 0)
          case measure =>
            have := Hun.out
            split
            · have := Hms.out (by assumption)
              omega
            · omega
          case rel => exact ⟨v, rfl, hv2, hr2, i2, Ov, Hst, gz, by simpa using s9⟩
    · have hk2 : (u.k == 1) = false := by simp [hk]
      have Hwk : Hid (WalkTo σ ρ t.erase u.erase) := ⟨hfu.out.1, hfu.out.2, fun h => absurd (by rw [← Tm.erase_k]; exact h) hk⟩
      clear f0 f1 f2 f3 hk
      go_wp2_with fail
      have k1 := fun a b c d => Kp.sets (C := (· = w.heap.size + 1)) (w := wr) (b := w.heap.size + 1) rfl a b c d
      exact bodyPost_ret (v := u.val) (by simp (maxDischargeDepth := 9) [results, Tryz.results68, go_sem, Tm.val, y0, y1, y2, y3]) rfl (HQ.out u _ (kp_in hin.out hou.out (fun b hb => by have := HSl.out b hb; omega) (k1 _ _ _ _)) hou.out Hwk.out (Below.trans gr ((k1 _ _ _ _).below (fun b hb => by omega) gr.size)))
end Go.Proofs.YtjdoflfdlhpbmaaGreat

namespace Go.Proofs.YtjdoflfdlhpbmaaGreat
open Go.RowKit Go.Maps Go.Lib

def RetBP (φ : Prop) (w : World) (e : Ending) (w' : World) : Prop := ∃ b : Bool, e = .returned (.bool b) ∧ (b = true ↔ φ) ∧ Gr w w'
def RetIx (φ : Prop) (w : World) (e : Ending) (w' : World) : Prop := ∃ r : Int, e = .returned (.int .i64 r) ∧ (0 ≤ r ↔ φ) ∧ Gr w w'

set_option maxHeartbeats 1000000 in
set_option maxRecDepth 100000 in
theorem indexTm_calls (p : Option Addr) (c : Nat) (l : List Tm) (fid : FuncId) (cap : Array Value) (φ : Tm → Prop) (w : World) (hx : Tm.Sl w p c l) (hen : ∀ (x : Value) w, (callFunc fid (#[x] ++ cap)).run Tryz.prog w = .ok (.enter fid (#[x] ++ cap)) w)
    (hcall : ∀ x ∈ l, ∀ W, Gr w W → Calls Tryz.prog fid (#[x.val] ++ cap) W (RetBP (φ x) W)) :
    Calls Tryz.prog 105 #[.slice p l.length c, .func (Fn.func fid) #[] cap] w (RetIx (∃ x ∈ l, φ x) w) := by
  have hR : Hid (∀ (r : Int) w', (0 ≤ r ↔ ∃ x ∈ l, φ x) → Gr w w' → RetIx (∃ x ∈ l, φ x) w (.returned (.int .i64 r)) w') := fun r w' h1 h2 => ⟨r, rfl, h1, h2⟩
  generalize RetIx (∃ x ∈ l, φ x) w = Q at hR ⊢
  have HR := hR
  have HX := Lib.hid hx
  have Hcall := Lib.hid hcall
  have hl64 : l.length * 56 ≤ 140737488351232 := hx.2.1.1
  clear hx hR hcall
  go_enter Tryz.func105, Tryz.ntmps105
  try simp only [List.append_eq, List.cons_append, List.nil_append]
  go_wp2_with fail
  go_loopg [8] l.length (fun m i wr => ∃ k : Nat, k ≤ l.length ∧ m = l.length - k ∧ i = .int .i64 k ∧ Hid (∀ (j : Nat) (h : j < l.length), j < k → ¬ φ l[j]) ∧ Gr w wr)
  case atStart => exact ⟨0, Nat.zero_le _, rfl, rfl, fun j _ h => absurd h (Nat.not_lt_zero j), Gr.rfl' _⟩
  case round =>
    obtain ⟨k, hk, rfl, rfl, hpre, gr⟩ := hrel
    by_cases hlt : k < l.length
    · obtain ⟨b, o, rfl⟩ := HX.out.ptr (by omega)
      obtain ⟨⟨c0, c1, c2, c3⟩, -, -⟩ := (HX.out.mono gr).elem k hlt
      have Hc := Lib.hid (Hcall.out _ (List.getElem_mem hlt))
      have Hyes : Hid (φ l[k] → (0 ≤ (k : Int) ↔ ∃ x ∈ l, φ x)) := fun h => ⟨fun _ => ⟨_, List.getElem_mem hlt, h⟩, fun _ => Int.natCast_nonneg k⟩
      have Hno : Hid (¬ φ l[k] → ∀ (j : Nat) (h : j < l.length), j < k + 1 → ¬ φ l[j]) := fun hn j h hj => by
        rcases Nat.lt_or_ge j k with h1 | h1
        · exact hpre.out j h h1
        · obtain rfl : j = k := by omega
          exact hn
      generalize l[k] = y at *
      have hcw := Hc.out wr gr
      rw [show y.val = .agg #[.int .i64 y.k, .int .i64 y.n, .string y.s, .slice y.p y.l.length y.c] from rfl] at hcw
      have Hcw := Lib.hid hcw
      clear hcw
      go_wp2_with fail
      refine Hcw.out.mono ?_
      rintro e w1 ⟨r, rfl, hr, hg⟩
      clear c0 c1 c2 c3
      cases r with
      | true =>
        have Hy := Lib.hid (Hyes.out (hr.1 rfl))
        clear hr
        go_wp2_with fail
        exact HR.out _ _ Hy.out (gr.trans hg)
      | false =>
        have Hn := Lib.hid (Hno.out fun h => nomatch hr.2 h)
        clear hr
        go_wp2_with fail
        go_roundg (l.length - (k + 1))
        case measure => omega
        case rel => exact ⟨k + 1, by omega, rfl, by go_num, Hn, gr.trans hg⟩
    · obtain rfl : k = l.length := by omega
      have Hn : Hid (0 ≤ (-1 : Int) ↔ ∃ x ∈ l, φ x) := by
        constructor
        · intro h; omega
        · rintro ⟨x, hx, h⟩
          obtain ⟨j, hj, rfl⟩ := List.getElem_of_mem hx
          exact absurd h (hpre.out j hj hj)
      go_wp2_with fail
      exact HR.out _ _ Hn.out gr

set_option maxHeartbeats 1000000 in
set_option maxRecDepth 100000 in
theorem containsTm_calls (p : Option Addr) (c : Nat) (l : List Tm) (fid : FuncId) (cap : Array Value) (φ : Tm → Prop) (w : World) (hx : Tm.Sl w p c l) (hen : ∀ (x : Value) w, (callFunc fid (#[x] ++ cap)).run Tryz.prog w = .ok (.enter fid (#[x] ++ cap)) w)
    (hcall : ∀ x ∈ l, ∀ W, Gr w W → Calls Tryz.prog fid (#[x.val] ++ cap) W (RetBP (φ x) W)) :
    Calls Tryz.prog 92 #[.slice p l.length c, .func (Fn.func fid) #[] cap] w (RetBP (∃ x ∈ l, φ x) w) := by
  have HI := Lib.hid (indexTm_calls p c l fid cap φ w hx hen hcall)
  have hR : Hid (∀ (b : Bool) w', (b = true ↔ ∃ x ∈ l, φ x) → Gr w w' → RetBP (∃ x ∈ l, φ x) w (.returned (.bool b)) w') := fun r w' h1 h2 => ⟨r, rfl, h1, h2⟩
  generalize RetBP (∃ x ∈ l, φ x) w = Q at hR ⊢
  have HR := hR
  clear hx hen hcall hR
  generalize (∃ x ∈ l, φ x) = ψ at *
  go_enter Tryz.func92, Tryz.ntmps92
  try simp only [List.append_eq, List.cons_append, List.nil_append]
  go_wp2_with fail
  refine HI.out.mono ?_
  rintro e w' ⟨r, rfl, hr, hg⟩
  have Hr : Hid (decide (0 ≤ r) = true ↔ ψ) := by rw [decide_eq_true_eq]; exact hr
  clear hr
  go_wp2_with fail
  exact HR.out _ _ Hr.out hg

/-! ### within -/
def withinOf (S : Nat → Prop) (B P M : Nat) (vt vm : Value) (σ : Int → Option T) (tr mk : List Int) (ρ : Int → T) (n : Int) (t : Tm) : Prop :=
  ∀ w, SM S B w P M vt vm σ tr mk → t.In w → t.On S → Calls Tryz.prog 87 #[.pointer (some ⟨P, 0, none⟩), .int .i64 n, t.val] w (RetBP (T.occ n (T.map ρ t.erase)) w)

theorem mapL_mem (f : Int → T) {l : List Tm} {x : Tm} (h : x ∈ l) : T.map f x.erase ∈ T.mapL f (Tm.eraseL l) := by
  rw [T.mapL_eq]
  refine List.mem_map.2 ⟨x.erase, ?_, rfl⟩
  obtain ⟨i, hi, rfl⟩ := List.getElem_of_mem h
  rw [← eraseL_getElem l i hi]
  exact List.getElem_mem _
theorem occ_args (f : Int → T) (n : Int) {u : Tm} (hk : u.k = 4) : T.occ n (T.map f u.erase) ↔ ∃ x ∈ u.l, T.occ n (T.map f x.erase) := by
  obtain ⟨k, m, s, p, c, l⟩ := u
  obtain rfl : k = 4 := hk
  rw [Tm.erase, T.map, if_neg (by decide), if_pos rfl, T.occ, if_neg (by decide), if_pos rfl, T.occL_iff]
  constructor
  · rintro ⟨x, hx, h⟩
    rw [T.mapL_eq] at hx
    obtain ⟨y, hy, rfl⟩ := List.mem_map.1 hx
    obtain ⟨i, hi, rfl⟩ := List.getElem_of_mem hy
    rw [Tm.eraseL_length] at hi
    rw [eraseL_getElem l i hi] at h
    exact ⟨l[i], List.getElem_mem _, h⟩
  · rintro ⟨x, hx, h⟩
    exact ⟨_, mapL_mem f hx, h⟩
theorem sz_arg (f : Int → T) {u x : Tm} (hk : u.k = 4) (hx : x ∈ u.l) : T.sz (T.map f x.erase) < T.sz (T.map f u.erase) := by
  obtain ⟨k, m, s, p, c, l⟩ := u
  obtain rfl : k = 4 := hk
  replace hx : x ∈ l := hx
  rw [Tm.erase, T.map, if_neg (by decide), if_pos rfl, T.sz]
  have := T.sz_elem (mapL_mem f hx)
  omega
theorem arg_parts {u : Tm} {w : World} {S : Nat → Prop} (hin : u.In w) (hon : u.On S) (hf : u.erase.formed = true) (hk1 : u.k ≠ 1) : Tm.Sl w u.p u.c u.l ∧ (∀ x ∈ u.l, x.In w ∧ x.On S ∧ x.erase.formed = true) ∧ (u.k = 4 ∨ u.l = []) := by
  obtain ⟨k, n, s, p, c, l⟩ := u
  have h0 := hin
  rw [Tm.On] at hon
  have hsl := h0.sl
  rw [Tm.In] at hin
  refine ⟨hsl, fun x hx => ⟨Tm.InL_mem hin.2.2.2.2.2.2 x hx, Tm.OnL_mem hon.2 x hx, ?_⟩, ?_⟩
  · rcases formed_args hf with ⟨h4, _⟩ | ⟨_, h5⟩
    · exact (formed_elem h4 hf).2.2.2.2 x hx
    · have := congrArg List.length h5
      rw [Tm.eraseL_length] at this
      rw [List.eq_nil_of_length_eq_zero this] at hx
      cases hx
  · rcases formed_args hf with ⟨h4, _⟩ | ⟨_, h5⟩
    · exact .inl h4
    · have := congrArg List.length h5
      rw [Tm.eraseL_length] at this
      exact .inr (List.eq_nil_of_length_eq_zero this)
theorem occ_leaf (f : Int → T) (n : Int) {u : Tm} (hf : u.erase.formed = true) (hk1 : u.k ≠ 1) (hl : u.l = []) : ¬ T.occ n (T.map f u.erase) := by
  obtain ⟨k, m, s, p, c, l⟩ := u
  obtain rfl : l = [] := hl
  replace hk1 : k ≠ 1 := hk1
  rw [Tm.erase, T.map, if_neg hk1]
  split
  · rw [Tm.eraseL, T.mapL, T.occ, if_neg hk1]
    split
    · rw [T.occL]; exact id
    · exact id
  · rename_i h4
    rw [T.occ, if_neg hk1, if_neg h4]
    exact id

set_option maxHeartbeats 1000000 in
set_option maxRecDepth 100000 in
theorem within1_calls {S : Nat → Prop} {B P M : Nat} {vt vm : Value} {σ : Int → Option T} {tr mk : List Int} {ρ : Int → T} {n : Int} {x : Tm} (hi : withinOf S B P M vt vm σ tr mk ρ n x) (W : World) (H1 H2 : Nat) (h1 : BlkT W H1 91 #[.pointer (some ⟨P, 0, none⟩)]) (h2 : BlkT W H2 2 #[.int .i64 n]) (hs : SM S B W P M vt vm σ tr mk) (hx : x.In W) (hon : x.On S) :
    Calls Tryz.prog 93 #[x.val, .pointer (some ⟨H1, 0, none⟩), .pointer (some ⟨H2, 0, none⟩)] W (RetBP (T.occ n (T.map ρ x.erase)) W) := by
  have Hi := Lib.hid hi
  have HS := Lib.hid hs
  have Hx := Lib.hid hx
  have Hon := Lib.hid hon
  have hR : Hid (∀ (b : Bool) w', (b = true ↔ T.occ n (T.map ρ x.erase)) → Gr W w' → RetBP (T.occ n (T.map ρ x.erase)) W (.returned (.bool b)) w') := fun r w' h1 h2 => ⟨r, rfl, h1, h2⟩
  have hcall := fun w' (g : Gr W w') => hi w' (hs.gr g) (Tm.In_below g hx) hon
  generalize RetBP (T.occ n (T.map ρ x.erase)) W = Q at hR ⊢
  have HR := hR
  rw [show x.val = .agg #[.int .i64 x.k, .int .i64 x.n, .string x.s, .slice x.p x.l.length x.c] from rfl] at hcall ⊢
  have Hcall := Lib.hid hcall
  have q1 := h1.cell 0 (v := .pointer (some ⟨P, 0, none⟩)) rfl
  have q2 := h2.cell 0 (v := .int .i64 n) rfl
  have l1 := h1.lt
  have l2 := h2.lt
  clear hi hs hx hon hR hcall h1 h2
  go_enter Tryz.func93, Tryz.ntmps93
  try simp only [List.append_eq, List.cons_append, List.nil_append]
  go_wp2_with fail
  refine (Hcall.out _ (by go_grown)).mono ?_
  rintro e w1 ⟨b, rfl, hb, hg⟩
  have Hb := Lib.hid hb
  have g1 : Gr W w1 := Below.trans (show Gr W _ by go_grown) (Below.mono hg (by simp))
  clear hb hg q1 q2
  go_wp2_with fail
  exact HR.out _ _ Hb.out g1

theorem three_boxes (w : World) (P : Nat) (n : Int) (t : Tm) (W : World) (h : ((w.alloc (.cells #[.pointer (some ⟨P, 0, none⟩)] 91)).alloc (.cells #[.int .i64 n] 2)).alloc (.cells #[.int .i64 t.k, .int .i64 t.n, .string t.s, .slice t.p t.l.length t.c] 24) = W) :
    BlkT W w.heap.size 91 #[.pointer (some ⟨P, 0, none⟩)] ∧ BlkT W (w.heap.size + 1) 2 #[.int .i64 n] ∧ BlkTm W (w.heap.size + 1 + 1) t ∧ Gr w W ∧ W.heap.size = w.heap.size + 1 + 1 + 1 := by
  subst h
  refine ⟨?_, ?_, ?_, by go_grown, by simp⟩
  · exact (BlkT.new w 91 #[.pointer (some ⟨P, 0, none⟩)]).gr (by go_grown)
  · have h1 := BlkT.new (w.alloc (.cells #[.pointer (some ⟨P, 0, none⟩)] 91)) 2 #[.int .i64 n]
    rw [World.size_alloc] at h1
    exact h1.gr (by go_grown)
  · have h1 := Blk4.new ((w.alloc (.cells #[.pointer (some ⟨P, 0, none⟩)] 91)).alloc (.cells #[.int .i64 n] 2)) (.int .i64 t.k) (.int .i64 t.n) (.string t.s) (.slice t.p t.l.length t.c)
    rw [World.size_alloc, World.size_alloc] at h1
    exact h1

set_option maxHeartbeats 1000000 in
set_option maxRecDepth 100000 in
theorem within_any {S : Nat → Prop} {B P M : Nat} {vt vm : Value} {σ : Int → Option T} {tr mk : List Int} {ρ : Int → T} (ho : StoreOk σ ρ) (n : Int) (N : Nat) : ∀ (t : Tm), t.erase.formed = true → T.sz (T.map ρ t.erase) ≤ N → withinOf S B P M vt vm σ tr mk ρ n t := by
  induction N with
  | zero => intro t _ h; have := T.sz_pos (T.map ρ t.erase); omega
  | succ N ih =>
    intro t hf hN w hs ht hon
    have hmf : ∀ (fn : Fn) (first cap : Array Value) (w : World), (Instr.makeFunc fn first cap).run Tryz.prog w = .ok (.func fn first cap) w := fun _ _ _ _ => rfl
    have HS := Lib.hid hs
    have Ht := Lib.hid ht
    have Hon := Lib.hid hon
    have Hf := Lib.hid hf
    have Hih := Lib.hid ih
    have HO := Lib.hid ho
    have HSl : Hid (∀ b, S b → b < w.heap.size) := fun b hb => (hs.sepS b hb).1
    have hR : Hid (∀ (b : Bool) w', (b = true ↔ T.occ n (T.map ρ t.erase)) → Gr w w' → RetBP (T.occ n (T.map ρ t.erase)) w (.returned (.bool b)) w') := fun r w' h1 h2 => ⟨r, rfl, h1, h2⟩
    generalize RetBP (T.occ n (T.map ρ t.erase)) w = Q at hR ⊢
    have HR := hR
    clear hs ht hon hf ih hR
    rw [show t.val = .agg #[.int .i64 t.k, .int .i64 t.n, .string t.s, .slice t.p t.l.length t.c] from rfl]
    go_enter Tryz.func87, Tryz.ntmps87
    try simp only [List.append_eq, List.cons_append, List.nil_append]
    go_upto_region 1 with fail
    obtain ⟨b1, b2, b3, gA, sA⟩ := three_boxes w P n t _ rfl
    generalize ((w.alloc (.cells #[.pointer (some ⟨P, 0, none⟩)] 91)).alloc (.cells #[.int .i64 n] 2)).alloc (.cells #[.int .i64 t.k, .int .i64 t.n, .string t.s, .slice t.p t.l.length t.c] 24) = wA at *
    have hwk := walk_calls (HS.out.gr gA) HO.out t (Tm.In_below gA Ht.out) Hon.out Hf.out
    rw [show t.val = .agg #[.int .i64 t.k, .int .i64 t.n, .string t.s, .slice t.p t.l.length t.c] from rfl] at hwk
    have Hwk := Lib.hid hwk
    have p0 := b1.cell 0 (v := .pointer (some ⟨P, 0, none⟩)) rfl
    obtain ⟨⟨t0, t1, t2, t3⟩, ⟨f0, f1, f2, f3⟩, _⟩ := Blk4.parts b3
    have B1 := Lib.hid b1
    have B2 := Lib.hid b2
    have B3 := Lib.hid b3
    clear hwk b1 b2 b3
    go_wp2_with fail
    refine Hwk.out.mono ?_
    rintro e w1 ⟨u, rfl, iu, ou, wu, g1⟩
    have Huv := Lib.hid (show u.val = .agg #[.int .i64 u.k, .int .i64 u.n, .string u.s, .slice u.p u.l.length u.c] from rfl)
    rw [Huv.out]
    have D3 := Lib.hid (Blk4.gr B3.out g1)
    obtain ⟨⟨y0, y1, y2, y3⟩, ⟨g0', g1', g2', g3'⟩, _⟩ := Blk4.parts D3.out
    have Iu := Lib.hid iu
    have Ou := Lib.hid ou
    have Wu := Lib.hid wu
    have gw1 : Gr w w1 := gA.trans g1
    have hs1 : w.heap.size + 1 + 1 < w1.heap.size := by have := g1.size; omega
    clear iu ou wu p0 t0 t1 t2 t3 f0 f1 f2 f3
    go_upto_region 2 with fail
    have k1 : Kp (· = w.heap.size + 1 + 1) w1 _ := Kp.sets (C := (· = w.heap.size + 1 + 1)) (w := w1) (b := w.heap.size + 1 + 1) rfl (.int .i64 u.k) (.int .i64 u.n) (.string u.s) (.slice u.p u.l.length u.c)
    have hb3 : BlkTm _ (w.heap.size + 1 + 1) u := Blk4.sets D3.out (.int .i64 u.k) (.int .i64 u.n) (.string u.s) (.slice u.p u.l.length u.c)
    generalize ((((w1.setCell ⟨w.heap.size + 1 + 1, 0, none⟩ (.int .i64 u.k)).setCell ⟨w.heap.size + 1 + 1, 1, none⟩ (.int .i64 u.n)).setCell ⟨w.heap.size + 1 + 1, 2, none⟩ (.string u.s)).setCell ⟨w.heap.size + 1 + 1, 3, none⟩ (.slice u.p u.l.length u.c)) = w2 at *
    have gw2 : Gr w w2 := Below.trans gw1 (k1.below (fun b hb => by omega) gw1.size)
    have C1 := Lib.hid ((B1.out.gr g1).kp k1 (by omega))
    have C2 := Lib.hid ((B2.out.gr g1).kp k1 (by omega))
    have I2 := Lib.hid (kp_in Iu.out Ou.out (fun b hb => by have := HSl.out b hb; omega) k1)
    obtain ⟨⟨z0, z1, z2, z3⟩, _, _⟩ := Blk4.parts hb3
    have n0 := C2.out.cell 0 (v := .int .i64 n) rfl
    have B3' := Lib.hid hb3
    clear y0 y1 y2 y3 g0' g1' g2' g3' hb3 k1
    by_cases hk : u.k = 1
    · have hk2 : (u.k == 1) = true := by simp [hk]
      have Hres : Hid ((u.n == n) = true ↔ T.occ n (T.map ρ t.erase)) := by
        show _ ↔ _
        rw [(Wu.out.var HO.out (by rw [Tm.erase_k]; exact hk)).2, T.occ_var, Tm.erase_n, beq_iff_eq]
      clear hk
      go_wp2_with fail
      exact HR.out _ _ Hres.out gw2
    · have hk2 : (u.k == 1) = false := by simp [hk]
      obtain ⟨hsl, hargs, hk4⟩ := arg_parts I2.out Ou.out Wu.out.form hk
      have hcont := containsTm_calls u.p u.c u.l 93 #[.pointer (some ⟨w.heap.size, 0, none⟩), .pointer (some ⟨w.heap.size + 1, 0, none⟩)] (fun x => T.occ n (T.map ρ x.erase)) w2 hsl (fun x W => by kernel_rfl) (fun x hx W hW => within1_calls (Hih.out x (hargs x hx).2.2 (by
          have h1 := Wu.out.same
          rcases hk4 with h4 | hl
          · have := sz_arg ρ h4 hx
            rw [h1] at this
            omega
          · rw [hl] at hx; exact nomatch hx)) W w.heap.size (w.heap.size + 1) (C1.out.gr hW) (C2.out.gr hW) ((HS.out.gr gw2).gr hW) (Tm.In_below hW (hargs x hx).1) (hargs x hx).2.1)
      have Hcont := Lib.hid hcont
      have Hiff : Hid ((∃ x ∈ u.l, T.occ n (T.map ρ x.erase)) ↔ T.occ n (T.map ρ t.erase)) := by
        rw [← Wu.out.same]
        rcases hk4 with h4 | hl
        · exact (occ_args ρ n h4).symm
        · rw [hl]
          constructor
          · rintro ⟨x, hx, _⟩; exact nomatch hx
          · intro h; exact absurd h (occ_leaf ρ n Wu.out.form hk hl)
      clear hk hsl hargs hk4 hcont
      go_wp2_with fail
      refine Hcont.out.mono ?_
      rintro e w3 ⟨b, rfl, hb, hg⟩
      have Hb := Lib.hid (hb.trans Hiff.out)
      clear hb z0 z1 z2 z3 n0
      go_wp2_with fail
      exact HR.out _ _ Hb.out (gw2.trans hg)

theorem within_calls {S : Nat → Prop} {B : Nat} {w : World} {P M : Nat} {vt vm : Value} {σ : Int → Option T} {tr mk : List Int} {ρ : Int → T} (hs : SM S B w P M vt vm σ tr mk) (ho : StoreOk σ ρ) (n : Int) (t : Tm) (ht : t.In w) (hon : t.On S) (hf : t.erase.formed = true) :
    Calls Tryz.prog 87 #[.pointer (some ⟨P, 0, none⟩), .int .i64 n, t.val] w (RetBP (T.occ n (T.map ρ t.erase)) w) := within_any ho n _ t hf (Nat.le_refl _) w hs ht hon
end Go.Proofs.YtjdoflfdlhpbmaaGreat
