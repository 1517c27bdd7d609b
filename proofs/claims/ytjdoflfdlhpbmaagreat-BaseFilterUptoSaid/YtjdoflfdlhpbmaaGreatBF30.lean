/-
  The store's Full.
  The laying of slices.Sorted(maps.Keys(..)) at int64. Printed by gen_el.py.
  The store's Bound: the sorted variables.
  hornref.Formed
-/
import Derived.Test.YtjdoflfdlhpbmaaGreatBF29
import Derived.Test.YtjdoflfdlhpbmaaGreatBF02
import Derived.Shelf.SlIterI.Sorted
import Derived.Shelf.SlIterI.Keys
import Derived.Shelf.SortM.Plain
import Derived.Shelf.SortM.SortNone
import Derived.Test.YtjdoflfdlhpbmaaGreatBF01
namespace Go.Proofs.YtjdoflfdlhpbmaaGreat
open Go.RowKit Go.Maps Go.Lib

/-- A block for a term, new since. -/
def newZ (B0 : Nat) : VP := fun v w => ∃ B, v = .pointer (some ⟨B, 0, none⟩) ∧ B0 ≤ B ∧ BlkZ w B
theorem newZ_stable {B0 : Nat} : ∀ v w w', newZ B0 v w → Gr w w' → newZ B0 v w' := fun _ _ _ ⟨b, h1, h2, h3⟩ hg => ⟨b, h1, h2, Blk4.gr h3 hg⟩

def fullOf (S : Nat → Prop) (B P M : Nat) (vt vm : Value) (σ : Int → Option T) (tr mk : List Int) (ρ : Int → T) (t : Tm) : Prop :=
  ∀ w, SM S B w P M vt vm σ tr mk → t.In w → t.On S → Calls Tryz.prog 44 #[.pointer (some ⟨P, 0, none⟩), t.val] w (RetTm (fun b => S b ∨ w.heap.size ≤ b) (T.map ρ t.erase) w)

set_option maxHeartbeats 2000000 in
set_option maxRecDepth 100000 in
theorem full1_calls {S : Nat → Prop} {B P M : Nat} {vt vm : Value} {σ : Int → Option T} {tr mk : List Int} {ρ : Int → T} (ho : StoreOk σ ρ) {n : Int} (hn : 0 ≤ n ∧ n ≤ 1099511627776)
    (hi : ∀ u : Tm, u.erase.formed = true → u.k ≠ 1 → T.map ρ u.erase = ρ n → fullOf S B P M vt vm σ tr mk ρ u) (w : World) (H1 : Nat) (h1 : BlkT w H1 91 #[.pointer (some ⟨P, 0, none⟩)]) (hs : SM S B w P M vt vm σ tr mk) :
    Calls Tryz.prog 67 #[.int .i64 n, .pointer (some ⟨H1, 0, none⟩)] w (RetTm (fun b => S b ∨ w.heap.size ≤ b) (ρ n) w) := by
  have HS := Lib.hid hs
  have HO := Lib.hid ho
  have Hi := Lib.hid hi
  have Hn : Hid (In64 n) := ⟨by omega, by omega⟩
  have HSl : Hid (∀ b, S b → b < w.heap.size) := fun b hb => (hs.sepS b hb).1
  have hR : Hid (∀ (u : Tm) w', u.In w' → u.erase = ρ n → Gr w w' → u.On (fun b => S b ∨ w.heap.size ≤ b) → RetTm (fun b => S b ∨ w.heap.size ≤ b) (ρ n) w (.returned u.val) w') := fun u w' h1 h2 h3 h4 => ⟨u, h1, h2, rfl, h3, h4⟩
  generalize RetTm (fun b => S b ∨ w.heap.size ≤ b) (ρ n) w = Q at hR ⊢
  have HR := hR
  have HwV : Hid (∀ w', Gr w w' → Calls Tryz.prog 68 #[.pointer (some ⟨P, 0, none⟩), .agg #[.int .i64 1, .int .i64 n, .string ⟨#[]⟩, .slice none 0 0]] w' (RetWalk S σ ρ (varT n) w')) := fun w' g => by
    have h2 := walk_calls (hs.gr g) ho (varTm n) (varTm_in Hn.out _) (varTm_on n) (by rw [varTm_erase]; exact varT_formed hn)
    rw [varTm_erase] at h2
    exact h2
  have q1 := h1.cell 0 (v := .pointer (some ⟨P, 0, none⟩)) rfl
  have l1 := h1.lt
  have HB1 := Lib.hid h1
  clear hs ho hi hR h1
  go_enter Tryz.func67, Tryz.ntmps67
  try simp only [List.append_eq, List.cons_append, List.nil_append]
  go_upto_region 1 with fail
  have hz : BlkZ (w.alloc (.cells #[.int .i64 0, .int .i64 0, .string ⟨#[]⟩, .slice none 0 0] 24)) w.heap.size := Blk4.new _ _ _ _ _
  have gA : Gr w (w.alloc (.cells #[.int .i64 0, .int .i64 0, .string ⟨#[]⟩, .slice none 0 0] 24)) := by go_grown
  generalize w.alloc (.cells #[.int .i64 0, .int .i64 0, .string ⟨#[]⟩, .slice none 0 0] 24) = wA at *
  have HZ := Lib.hid hz
  clear hz
  have q1' := Gr.at gA q1
  refine wp_region_rely_tail 5 [fx (.pointer (some ⟨P, 0, none⟩)), fx (.int .i64 n), fx (.agg #[.int .i64 1, .int .i64 n, .string ⟨#[]⟩, .slice none 0 0]), walkV S σ ρ (varT n), newZ wA.heap.size]
    (by kernel_rfl) (by kernel_rfl) (by decide) (by repeat (first | exact Stable.nil | refine Stable.fix ?_ | refine Stable.cons walkV_stable ?_ | refine Stable.cons newZ_stable ?_)) ?_ ?_
  · refine ⟨?_, ?_, ?a2, ?a3, ?a4, trivial⟩
    all_goals
      intro a wz hg hold
      have h0 : a.tmps[0]?.getD undef = .int .i64 n := hold 0 rfl
      have h1 : a.tmps[1]?.getD undef = .pointer (some ⟨H1, 0, none⟩) := hold 1 rfl
      have z1 := Gr.at hg q1'
      have Hg := Lib.hid hg
      clear hold q1 q1'
      simp [predsImp, Region.binds, dstAt, fx]
      intros
      first
        | (rw [if_pos (by simp [*])]
           intro K hK)
        | (rename_i K hK)
      go_simp
    case a2 =>
      refine (vV_calls n _).mono ?_
      rintro e w9 ⟨rfl, ib⟩
      exact hK _ _ rfl ib
    case a3 =>
      refine (HwV.out _ (gA.trans Hg.out)).mono ?_
      rintro e w9 ⟨u, rfl, i1, i2, i3, ib⟩
      exact hK _ _ ⟨u, rfl, i1, i2, i3⟩ ib
    case a4 =>
      exact hK _ _ ⟨_, rfl, Hg.out.size, Blk4.new _ _ _ _ _⟩ (by go_grown)
    all_goals exact hK _ _ rfl (Gr.rfl' _)
  · intro w9 hg
    rintro _ rfl _ rfl _ rfl _ ⟨u, rfl, iu, ou, wu⟩ _ ⟨H4, rfl, l4, z4⟩
    simp only [finAll, Act.put, List.setIfInBounds_toArray, List.set_cons_succ, List.set_cons_zero, List.drop_succ_cons, List.drop_zero, List.take_zero]
    have gw9 : Gr w w9 := gA.trans hg
    have Huv := Lib.hid (show u.val = .agg #[.int .i64 u.k, .int .i64 u.n, .string u.s, .slice u.p u.l.length u.c] from rfl)
    obtain ⟨⟨p0, p1, p2, p3⟩, ⟨f0, f1, f2, f3⟩, _⟩ := Blk4.parts z4
    have Z4 := Lib.hid z4
    have hz3 := Blk4.gr HZ.out hg
    have Z3 := Lib.hid hz3
    have s3 : w.heap.size < wA.heap.size := (Blk4.parts HZ.out).2.2
    have hne : H4 ≠ w.heap.size := by omega
    have Iu := Lib.hid iu
    have Ou := Lib.hid ou
    have Wu := Lib.hid wu
    clear iu ou wu z4 hz3 q1 q1' hg
    rw [Huv.out]
    go_upto_region 2 with fail
    have k1 : Kp (· = H4) w9 _ := Kp.sets (C := (· = H4)) (w := w9) (b := H4) rfl (.int .i64 u.k) (.int .i64 u.n) (.string u.s) (.slice u.p u.l.length u.c)
    have hb4 : BlkTm _ H4 u := Blk4.sets Z4.out (.int .i64 u.k) (.int .i64 u.n) (.string u.s) (.slice u.p u.l.length u.c)
    have hb3 : BlkZ _ w.heap.size := Blk4.kp Z3.out k1 (by omega)
    generalize (((w9.setCell ⟨H4, 0, none⟩ (.int .i64 u.k)).setCell ⟨H4, 1, none⟩ (.int .i64 u.n)).setCell ⟨H4, 2, none⟩ (.string u.s)).setCell ⟨H4, 3, none⟩ (.slice u.p u.l.length u.c) = w2 at *
    have gw2 : Gr w w2 := Below.trans gw9 (k1.below (fun b hb => by omega) gw9.size)
    have I2 := Lib.hid (kp_in Iu.out Ou.out (fun b hb => by have := HSl.out b hb; omega) k1)
    have B3 := Lib.hid hb3
    have q2 := (HB1.out.gr gw2).cell 0 (v := .pointer (some ⟨P, 0, none⟩)) rfl
    obtain ⟨⟨z0, z1, z2, z3⟩, _, _⟩ := Blk4.parts hb4
    clear p0 p1 p2 p3 f0 f1 f2 f3 hb4 hb3 k1
    have hw2 : Hid (∀ (v : Tm) w3, Gr w2 w3 → v.In w3 → v.erase = ρ n → v.On (fun b => S b ∨ w2.heap.size ≤ b) → Q (.returned v.val) ((((w3.setCell ⟨w.heap.size, 0, none⟩ (.int .i64 v.k)).setCell ⟨w.heap.size, 1, none⟩ (.int .i64 v.n)).setCell ⟨w.heap.size, 2, none⟩ (.string v.s)).setCell ⟨w.heap.size, 3, none⟩ (.slice v.p v.l.length v.c))) := fun v w3 hg i1 i2 i3 => by
      have k3 : Kp (· = w.heap.size) w3 _ := Kp.sets (C := (· = w.heap.size)) (w := w3) (b := w.heap.size) rfl (.int .i64 v.k) (.int .i64 v.n) (.string v.s) (.slice v.p v.l.length v.c)
      have h1 := gw2.size
      have h2 : w.heap.size < w2.heap.size := (Blk4.parts B3.out).2.2
      refine HR.out v _ (kp_in i1 i3 (fun b hb e => ?_) k3) i2 (Below.trans (gw2.trans hg) (k3.below (fun b hb => by omega) (gw2.trans hg).size)) (i3.mono fun b hb => hb.imp id fun h => by omega)
      rcases hb with hb | hb
      · have := HSl.out b hb; omega
      · omega
    by_cases hk : u.k = 1
    · have hk2 : (u.k == 1) = true := by simp [hk]
      have Hres : Hid (u.erase = ρ n) := by
        have := Wu.out.var HO.out (by rw [Tm.erase_k]; exact hk)
        show _ = _
        rw [this.1, ← this.2, T.map_var]
      have Hfin := Lib.hid (hw2.out u w2 (Gr.rfl' _) I2.out Hres.out (Ou.out.mono fun b hb => .inl hb))
      obtain ⟨⟨y0, y1, y2, y3⟩, ⟨f0, f1, f2, f3⟩, _⟩ := Blk4.parts B3.out
      clear hk
      go_wp2_with fail
      exact bodyPost_ret (v := u.val) (by simp (maxDischargeDepth := 9) [results, Tryz.results67, go_sem, Tm.val, y0, y1, y2, y3]) rfl Hfin.out
    · have hk2 : (u.k == 1) = false := by simp [hk]
      have hcall := Hi.out u Wu.out.form hk (by rw [Wu.out.same, T.map_var]) w2 (HS.out.gr gw2) I2.out Ou.out
      have hsame := Wu.out.same
      rw [T.map_var] at hsame
      rw [hsame, Huv.out] at hcall
      have Hcall := Lib.hid hcall
      clear hk hcall hsame
      go_wp2_with fail
      refine Hcall.out.mono ?_
      rintro e w3 ⟨v, i1, i2, rfl, hg, i3⟩
      have Hfin := Lib.hid (hw2.out v w3 hg i1 i2 i3)
      have Hvv := Lib.hid (show v.val = .agg #[.int .i64 v.k, .int .i64 v.n, .string v.s, .slice v.p v.l.length v.c] from rfl)
      have b3 := Blk4.gr B3.out hg
      obtain ⟨⟨y0, y1, y2, y3⟩, ⟨f0, f1, f2, f3⟩, _⟩ := Blk4.parts b3
      rw [Hvv.out]
      clear i1 i2 i3 z0 z1 z2 z3 q2 b3 hg
      go_wp2_with fail
      exact bodyPost_ret (v := v.val) (by simp (maxDischargeDepth := 9) [results, Tryz.results67, go_sem, Tm.val, y0, y1, y2, y3]) rfl Hfin.out

theorem full_boxes (w : World) (P : Nat) (t : Tm) (W : World) (h : ((w.alloc (.cells #[.pointer (some ⟨P, 0, none⟩)] 91)).alloc (.cells #[.int .i64 t.k, .int .i64 t.n, .string t.s, .slice t.p t.l.length t.c] 24)).alloc (.cells #[.int .i64 0, .int .i64 0, .string ⟨#[]⟩, .slice none 0 0] 24) = W) :
    BlkT W w.heap.size 91 #[.pointer (some ⟨P, 0, none⟩)] ∧ BlkTm W (w.heap.size + 1) t ∧ BlkZ W (w.heap.size + 1 + 1) ∧ Gr w W ∧ W.heap.size = w.heap.size + 1 + 1 + 1 := by
  subst h
  refine ⟨?_, ?_, ?_, by go_grown, by simp⟩
  · exact (BlkT.new w 91 #[.pointer (some ⟨P, 0, none⟩)]).gr (by go_grown)
  · have h1 := Blk4.new (w.alloc (.cells #[.pointer (some ⟨P, 0, none⟩)] 91)) (.int .i64 t.k) (.int .i64 t.n) (.string t.s) (.slice t.p t.l.length t.c)
    rw [World.size_alloc] at h1
    exact Blk4.gr h1 (by go_grown)
  · have h1 := Blk4.new ((w.alloc (.cells #[.pointer (some ⟨P, 0, none⟩)] 91)).alloc (.cells #[.int .i64 t.k, .int .i64 t.n, .string t.s, .slice t.p t.l.length t.c] 24)) (.int .i64 0) (.int .i64 0) (.string ⟨#[]⟩) (.slice none 0 0)
    rw [World.size_alloc, World.size_alloc] at h1
    exact h1

set_option maxHeartbeats 2000000 in
set_option maxRecDepth 100000 in
theorem full_any {S : Nat → Prop} {B P M : Nat} {vt vm : Value} {σ : Int → Option T} {tr mk : List Int} {ρ : Int → T} (ho : StoreOk σ ρ) (N : Nat) : ∀ (t : Tm), t.erase.formed = true → T.sz (T.map ρ t.erase) + (if t.k = 1 then 1 else 0) ≤ N → fullOf S B P M vt vm σ tr mk ρ t := by
  induction N with
  | zero => intro t _ h; have := T.sz_pos (T.map ρ t.erase); omega
  | succ N ih =>
    intro t hf hN w hs ht hon
    have hmf : ∀ (fn : Fn) (first cap : Array Value) (w : World), (Instr.makeFunc fn first cap).run Tryz.prog w = .ok (.func fn first cap) w := fun _ _ _ _ => rfl
    have HSl : Hid (∀ b, S b → b < w.heap.size) := fun b hb => (hs.sepS b hb).1
    have HM : Hid (∀ H1 W, Gr w W → BlkT W H1 91 #[.pointer (some ⟨P, 0, none⟩)] → MapFnP (fun n => T.occ n t.erase) (.func (.func 67) #[] #[.pointer (some ⟨H1, 0, none⟩)]) S ρ W) := fun H1 W hg hb =>
      ⟨fun b hb => Nat.lt_of_lt_of_le (HSl.out b hb) hg.size, 67, #[.pointer (some ⟨H1, 0, none⟩)], rfl, fun n w => by kernel_rfl, fun n w' hp hw _ => by
        refine full1_calls ho (T.occ_range _ hf hp) (fun u hu hk he => ?_) w' H1 (hb.gr hw) (hs.gr (hg.trans hw))
        refine ih u hu ?_
        rw [if_neg hk, he]
        have h1 := T.sz_occ (f := ρ) t.erase hp
        rw [Tm.erase_k] at h1
        split at hN
        · have := h1.1; omega
        · have := h1.2 (by assumption); omega⟩
    have HMap : Hid (∀ H1 W, Gr w W → BlkT W H1 91 #[.pointer (some ⟨P, 0, none⟩)] → Calls Tryz.prog 49 #[t.val, .func (.func 67) #[] #[.pointer (some ⟨H1, 0, none⟩)]] W (RetTm (fun b => S b ∨ W.heap.size ≤ b) (T.map ρ t.erase) W)) := fun H1 W hg hb => mapP_calls (Tm.In_below hg ht) hf (fun n hn => hn) (HM.out H1 W hg hb)
    have hR : Hid (∀ (u : Tm) w', u.In w' → u.erase = T.map ρ t.erase → Gr w w' → u.On (fun b => S b ∨ w.heap.size ≤ b) → RetTm (fun b => S b ∨ w.heap.size ≤ b) (T.map ρ t.erase) w (.returned u.val) w') := fun u w' h1 h2 h3 h4 => ⟨u, h1, h2, rfl, h3, h4⟩
    generalize RetTm (fun b => S b ∨ w.heap.size ≤ b) (T.map ρ t.erase) w = Q at hR ⊢
    have HR := hR
    clear hs ht hon hf ih hR hN HM
    rw [show t.val = .agg #[.int .i64 t.k, .int .i64 t.n, .string t.s, .slice t.p t.l.length t.c] from rfl] at HMap ⊢
    go_enter Tryz.func44, Tryz.ntmps44
    try simp only [List.append_eq, List.cons_append, List.nil_append]
    go_upto_region 1 with fail
    obtain ⟨b1, b2, b3, gA, sA⟩ := full_boxes w P t _ rfl
    generalize ((w.alloc (.cells #[.pointer (some ⟨P, 0, none⟩)] 91)).alloc (.cells #[.int .i64 t.k, .int .i64 t.n, .string t.s, .slice t.p t.l.length t.c] 24)).alloc (.cells #[.int .i64 0, .int .i64 0, .string ⟨#[]⟩, .slice none 0 0] 24) = wA at *
    have hcall := HMap.out w.heap.size wA gA b1
    have Hcall := Lib.hid hcall
    have B3 := Lib.hid b3
    obtain ⟨⟨t0, t1, t2, t3⟩, _, _⟩ := Blk4.parts b2
    clear hcall HMap b1 b2 b3
    go_wp2_with fail
    refine Hcall.out.mono ?_
    rintro e w3 ⟨v, i1, i2, rfl, hg, i3⟩
    have gw3 : Gr w w3 := gA.trans hg
    have hfin := HR.out v _ (kp_in i1 i3 (fun b hb e => by
      rcases hb with hb | hb
      · have := HSl.out b hb; omega
      · omega) (Kp.sets (C := (· = w.heap.size + 1 + 1)) (w := w3) (b := w.heap.size + 1 + 1) rfl (.int .i64 v.k) (.int .i64 v.n) (.string v.s) (.slice v.p v.l.length v.c))) i2 (Below.trans gw3 ((Kp.sets (C := (· = w.heap.size + 1 + 1)) (w := w3) (b := w.heap.size + 1 + 1) rfl (.int .i64 v.k) (.int .i64 v.n) (.string v.s) (.slice v.p v.l.length v.c)).below (fun b hb => by omega) gw3.size)) (i3.mono fun b hb => hb.imp id fun h => by omega)
    have Hfin := Lib.hid hfin
    have Hvv := Lib.hid (show v.val = .agg #[.int .i64 v.k, .int .i64 v.n, .string v.s, .slice v.p v.l.length v.c] from rfl)
    have b3 := Blk4.gr B3.out hg
    obtain ⟨⟨y0, y1, y2, y3⟩, ⟨f0, f1, f2, f3⟩, _⟩ := Blk4.parts b3
    rw [Hvv.out]
    clear i1 i2 i3 t0 t1 t2 t3 b3 hg hfin
    go_wp2_with fail
    exact bodyPost_ret (v := v.val) (by simp (maxDischargeDepth := 9) [results, Tryz.results44, go_sem, Tm.val, y0, y1, y2, y3]) rfl Hfin.out

theorem full_calls {S : Nat → Prop} {B : Nat} {w : World} {P M : Nat} {vt vm : Value} {σ : Int → Option T} {tr mk : List Int} {ρ : Int → T} (hs : SM S B w P M vt vm σ tr mk) (ho : StoreOk σ ρ) (t : Tm) (ht : t.In w) (hon : t.On S) (hf : t.erase.formed = true) :
    Calls Tryz.prog 44 #[.pointer (some ⟨P, 0, none⟩), t.val] w (RetTm (fun b => S b ∨ w.heap.size ≤ b) (T.map ρ t.erase) w) := full_any ho _ t hf (Nat.le_refl _) w hs ht hon
end Go.Proofs.YtjdoflfdlhpbmaaGreat

namespace Go.Proofs.YtjdoflfdlhpbmaaGreat
open Go.RowKit

def zRen : Go.Shelf.Ren := ⟨fun | 6 => 65 | 7 => 66 | 8 => 80 | 9 => 81 | 10 => 82 | 11 => 88 | n => n, fun | 0 => 0 | 3 => 24 | 4 => 4 | 22 => 119 | 23 => 119 | 24 => 41 | 26 => 2 | 27 => 124 | 28 => 125 | 33 => 139 | n => n, fun n => n⟩

set_option maxRecDepth 100000 in
theorem keysLays : Go.Proofs.SlLaysZI.n7 Tryz.prog zRen := {
  mixed := by kernel_rfl
  f7 := ⟨Tryz.f66.name, by kernel_rfl, Tryz.func66.trans (congrArg some (by kernel_rfl))⟩
  f10 := ⟨Tryz.f82.name, by kernel_rfl, Tryz.func82.trans (congrArg some (by kernel_rfl))⟩
  t0 := Tryz.underlying0
  a0 := Tryz.isAgg0
  z0 := Tryz.sizeOf0
  v0 := Tryz.zeroValue0
  t4 := Tryz.underlying4
  a4 := Tryz.isAgg4
  z4 := Tryz.sizeOf4
  v4 := Tryz.zeroValue4
  t23 := Tryz.underlying119
  a23 := Tryz.isAgg119
  z23 := Tryz.sizeOf119
  v23 := Tryz.zeroValue119
  t26 := Tryz.underlying2
  a26 := Tryz.isAgg2
  z26 := Tryz.sizeOf2
  v26 := Tryz.zeroValue2
  t27 := Tryz.underlying124
  a27 := Tryz.isAgg124
  z27 := Tryz.sizeOf124
  v27 := Tryz.zeroValue124
  t28 := Tryz.underlying125
  a28 := Tryz.isAgg125
  z28 := Tryz.sizeOf125
  v28 := Tryz.zeroValue125
  t33 := Tryz.underlying139
  a33 := Tryz.isAgg139
  z33 := Tryz.sizeOf139
  v33 := Tryz.zeroValue139 }

set_option maxRecDepth 100000 in
theorem sortedLays : Go.Proofs.SlLaysZI.n6 Tryz.prog zRen := {
  mixed := by kernel_rfl
  f6 := ⟨Tryz.f65.name, by kernel_rfl, Tryz.func65.trans (congrArg some (by kernel_rfl))⟩
  f8 := ⟨Tryz.f80.name, by kernel_rfl, Tryz.func80.trans (congrArg some (by kernel_rfl))⟩
  f11 := ⟨Tryz.f88.name, by kernel_rfl, Tryz.func88.trans (congrArg some (by kernel_rfl))⟩
  t0 := Tryz.underlying0
  a0 := Tryz.isAgg0
  z0 := Tryz.sizeOf0
  v0 := Tryz.zeroValue0
  t24 := Tryz.underlying41
  a24 := Tryz.isAgg41
  z24 := Tryz.sizeOf41
  v24 := Tryz.zeroValue41
  t26 := Tryz.underlying2
  a26 := Tryz.isAgg2
  z26 := Tryz.sizeOf2
  v26 := Tryz.zeroValue2
  t28 := Tryz.underlying125
  a28 := Tryz.isAgg125
  z28 := Tryz.sizeOf125
  v28 := Tryz.zeroValue125
  i26 := by kernel_rfl }
def mRen : Go.Shelf.Ren := ⟨fun | 5 => 81 | 7 => 89 | 8 => 90 | 10 => 94 | 11 => 95 | 12 => 96 | 13 => 97 | 14 => 98 | 15 => 99 | 16 => 100 | 17 => 101 | 18 => 102 | 19 => 103 | 20 => 104 | 30 => 106 | 31 => 107 | 32 => 108 | 33 => 109 | 34 => 110 | 35 => 85 | 40 => 111 | n => n, fun | 0 => 0 | 3 => 3 | 4 => 4 | 5 => 5 | 9 => 9 | 22 => 41 | 23 => 41 | 25 => 2 | 32 => 145 | 35 => 148 | 36 => 149 | 41 => 154 | 44 => 157 | 46 => 159 | 53 => 161 | 57 => 135 | 63 => 166 | 64 => 167 | n => n, fun n => n⟩

set_option maxRecDepth 100000 in
theorem sortLays : Go.Proofs.SlLaysM.n5 Tryz.prog mRen := {
  mixed := by kernel_rfl
  f5 := ⟨Tryz.f81.name, by kernel_rfl, Tryz.func81.trans (congrArg some (by kernel_rfl))⟩
  f7 := ⟨Tryz.f89.name, by kernel_rfl, Tryz.func89.trans (congrArg some (by kernel_rfl))⟩
  f8 := Tryz.func90.trans (congrArg some (by kernel_rfl))
  f10 := ⟨Tryz.f94.name, by kernel_rfl, Tryz.func94.trans (congrArg some (by kernel_rfl))⟩
  f11 := ⟨Tryz.f95.name, by kernel_rfl, Tryz.func95.trans (congrArg some (by kernel_rfl))⟩
  f12 := ⟨Tryz.f96.name, by kernel_rfl, Tryz.func96.trans (congrArg some (by kernel_rfl))⟩
  f13 := ⟨Tryz.f97.name, by kernel_rfl, Tryz.func97.trans (congrArg some (by kernel_rfl))⟩
  f14 := ⟨Tryz.f98.name, by kernel_rfl, Tryz.func98.trans (congrArg some (by kernel_rfl))⟩
  f15 := ⟨Tryz.f99.name, by kernel_rfl, Tryz.func99.trans (congrArg some (by kernel_rfl))⟩
  f16 := ⟨Tryz.f100.name, by kernel_rfl, Tryz.func100.trans (congrArg some (by kernel_rfl))⟩
  f17 := ⟨Tryz.f101.name, by kernel_rfl, Tryz.func101.trans (congrArg some (by kernel_rfl))⟩
  f18 := ⟨Tryz.f102.name, by kernel_rfl, Tryz.func102.trans (congrArg some (by kernel_rfl))⟩
  f19 := Tryz.func103.trans (congrArg some (by kernel_rfl))
  f20 := Tryz.func104.trans (congrArg some (by kernel_rfl))
  f30 := ⟨Tryz.f106.name, by kernel_rfl, Tryz.func106.trans (congrArg some (by kernel_rfl))⟩
  f31 := Tryz.func107.trans (congrArg some (by kernel_rfl))
  f32 := Tryz.func108.trans (congrArg some (by kernel_rfl))
  f33 := ⟨Tryz.f109.name, by kernel_rfl, Tryz.func109.trans (congrArg some (by kernel_rfl))⟩
  f34 := ⟨Tryz.f110.name, by kernel_rfl, Tryz.func110.trans (congrArg some (by kernel_rfl))⟩
  f35 := ⟨Tryz.f85.name, by kernel_rfl, Tryz.func85.trans (congrArg some (by kernel_rfl))⟩
  f40 := ⟨Tryz.f111.name, by kernel_rfl, Tryz.func111.trans (congrArg some (by kernel_rfl))⟩
  t0 := Tryz.underlying0
  a0 := Tryz.isAgg0
  z0 := Tryz.sizeOf0
  v0 := Tryz.zeroValue0
  t3 := Tryz.underlying3
  a3 := Tryz.isAgg3
  z3 := Tryz.sizeOf3
  v3 := Tryz.zeroValue3
  t4 := Tryz.underlying4
  a4 := Tryz.isAgg4
  z4 := Tryz.sizeOf4
  v4 := Tryz.zeroValue4
  t5 := Tryz.underlying5
  a5 := Tryz.isAgg5
  z5 := Tryz.sizeOf5
  v5 := Tryz.zeroValue5
  t9 := Tryz.underlying9
  a9 := Tryz.isAgg9
  z9 := Tryz.sizeOf9
  v9 := Tryz.zeroValue9
  t22 := Tryz.underlying41
  a22 := Tryz.isAgg41
  z22 := Tryz.sizeOf41
  v22 := Tryz.zeroValue41
  t23 := Tryz.underlying41
  a23 := Tryz.isAgg41
  z23 := Tryz.sizeOf41
  v23 := Tryz.zeroValue41
  t25 := Tryz.underlying2
  a25 := Tryz.isAgg2
  z25 := Tryz.sizeOf2
  v25 := Tryz.zeroValue2
  t32 := Tryz.underlying145
  a32 := Tryz.isAgg145
  z32 := Tryz.sizeOf145
  v32 := Tryz.zeroValue145
  t35 := Tryz.underlying148
  a35 := Tryz.isAgg148
  z35 := Tryz.sizeOf148
  v35 := Tryz.zeroValue148
  t36 := Tryz.underlying149
  a36 := Tryz.isAgg149
  z36 := Tryz.sizeOf149
  v36 := Tryz.zeroValue149
  t41 := Tryz.underlying154
  a41 := Tryz.isAgg154
  z41 := Tryz.sizeOf154
  v41 := Tryz.zeroValue154
  t44 := Tryz.underlying157
  a44 := Tryz.isAgg157
  z44 := Tryz.sizeOf157
  v44 := Tryz.zeroValue157
  t46 := Tryz.underlying159
  a46 := Tryz.isAgg159
  z46 := Tryz.sizeOf159
  v46 := Tryz.zeroValue159
  t53 := Tryz.underlying161
  a53 := Tryz.isAgg161
  z53 := Tryz.sizeOf161
  v53 := Tryz.zeroValue161
  t57 := Tryz.underlying135
  a57 := Tryz.isAgg135
  z57 := Tryz.sizeOf135
  v57 := Tryz.zeroValue135
  t63 := Tryz.underlying166
  a63 := Tryz.isAgg166
  z63 := Tryz.sizeOf166
  v63 := Tryz.zeroValue166
  t64 := Tryz.underlying167
  a64 := Tryz.isAgg167
  z64 := Tryz.sizeOf167
  v64 := Tryz.zeroValue167 }
end Go.Proofs.YtjdoflfdlhpbmaaGreat

namespace Go.Proofs.YtjdoflfdlhpbmaaGreat
open Go.RowKit Go.Maps Go.Lib Go.Sort Go.Shelf

/-- A reading that looks at no value. -/
def blindR : Value → Option (DataW Unit × List MemPlace) := fun _ => some (.nil, [])
theorem rg_int {e : MapEntry} {n : Int} (he : e.key = kI64 n) (hn : In64 n) : WideElems.rd Tryz.prog 2 blindR e = some (.int .i64 n, .nil) := by
  unfold WideElems.rd
  rw [he, kI64, keyOf_int_mk Tryz.underlying2 (wf_64 hn)]
  rfl
/-- A store's map as the kit owns it; its keys. -/
theorem SM.owns {S : Nat → Prop} {B : Nat} {w : World} {P M : Nat} {vt vm : Value} {σ : Int → Option T} {tr mk : List Int} (h : SM S B w P M vt vm σ tr mk) :
    ∃ (D : DataW Unit), w.ownsMap Tryz.prog 2 blindR M tr.length D ∧ Maps.size D = tr.length ∧ (intKeys D).Perm tr := by
  obtain ⟨E, c, hb, hst, hbn, hn, hE, hf⟩ := h.map.entries
  have hkey : ∀ e ∈ E.toList, ∃ n : Int, e.key = kI64 n ∧ In64 n ∧ σ n ≠ none := fun e he => by
    obtain ⟨n, tm, h1, _, h3, _, _, _, h4, h5⟩ := hE e he
    exact ⟨n, h1, ⟨by omega, by omega⟩, by rw [h3]; simp⟩
  have hrd : ∀ e ∈ E.toList, ∃ n : Int, e.key = kI64 n ∧ σ n ≠ none ∧ WideElems.rd Tryz.prog 2 blindR e = some (.int .i64 n, .nil) := fun e he => by
    obtain ⟨n, h1, h2, h3⟩ := hkey e he
    exact ⟨n, h1, h3, rg_int h1 h2⟩
  have hperm : (intKeys (.map ((E.toList.map (WideElems.rg Tryz.prog 2 blindR)).foldr DataW.insert []))).Perm (E.toList.map fun e => Go.intOf (WideElems.rg Tryz.prog 2 blindR e).1) := by
    show (List.map _ _).Perm _
    have h1 := (WideShapes.sorted_perm (E.toList.map (WideElems.rg Tryz.prog 2 blindR))).map fun p => Go.intOf p.1
    simp only [List.map_map, Function.comp_def] at h1
    exact h1
  have hnd : (E.toList.map fun e => Go.intOf (WideElems.rg Tryz.prog 2 blindR e).1).Nodup := by
    refine List.pairwise_map.2 ((List.pairwise_map.1 hn).imp_of_mem fun {p q} hp hq hne e => hne ?_)
    obtain ⟨a, ha, _, ra⟩ := hrd p hp
    obtain ⟨b, hb, _, rb⟩ := hrd q hq
    rw [WideElems.rg_of ra, WideElems.rg_of rb] at e
    replace e : a = b := e
    rw [ha, hb, e]
  have hmem : ∀ x, x ∈ (E.toList.map fun e => Go.intOf (WideElems.rg Tryz.prog 2 blindR e).1) ↔ x ∈ tr := fun x => by
    rw [List.mem_map, h.tri]
    constructor
    · rintro ⟨e, he, rfl⟩
      obtain ⟨a, ha, h2, ra⟩ := hrd e he
      rw [WideElems.rg_of ra]
      exact h2
    · intro hx
      cases hs : σ x with
      | none => exact absurd hs hx
      | some t =>
        obtain ⟨e, he, hek⟩ := hf x t hs
        obtain ⟨a, ha, h2, ra⟩ := hrd e he
        refine ⟨e, he, ?_⟩
        rw [WideElems.rg_of ra]
        rw [hek] at ha
        exact (kI64_inj ha).symm
  have hp2 := (List.perm_ext_iff_of_nodup hnd h.trn).2 hmem
  have hlen : E.size = tr.length := by
    have := hp2.length_eq
    rw [List.length_map, Array.length_toList] at this
    exact this
  have hl := h.len
  refine ⟨_, ⟨E, c, hb, ⟨?_, ⟨hst, hbn, hn⟩, fun e he => ?_⟩, Nat.le_of_eq hlen, rfl⟩, ?_, hperm.trans hp2⟩
  · rw [hlen]; unfold maxLen; omega
  · obtain ⟨n, _, _, h2⟩ := hrd e he
    exact ⟨_, h2⟩
  · show List.length _ = _
    rw [DataW.length_sorted, List.length_map, Array.length_toList, hlen]

/-- slices.Sort's two contracts. -/
theorem sortsInt (m : Nat) : AnyZI.SortsIn Tryz.prog zRen Fence.wide m :=
  ⟨fun blk off cap ss W hH hblk hsz => callsIn_wide.2 (AnyM.slices_Sort_int sortLays blk off cap ss W hH hblk hsz),
   fun p cap W => callsIn_wide.2 (AnyM.slices_Sort_int_none sortLays p cap W)⟩

set_option maxHeartbeats 2000000 in
set_option maxRecDepth 100000 in
theorem bound_calls {S : Nat → Prop} {B : Nat} {w : World} {P M : Nat} {vt vm : Value} {σ : Int → Option T} {tr mk : List Int} (hs : SM S B w P M vt vm σ tr mk) :
    Calls Tryz.prog 43 #[.pointer (some ⟨P, 0, none⟩)] w (fun e w' => ∃ v, e = .returned v ∧ IntsOwn w' w.heap.size v (tr.mergeSort leI) ∧ Gr w w') := by
  obtain ⟨D, hown, hsz, hperm⟩ := hs.owns
  have hl := hs.len
  have hbl := hown.lt
  have hseq : SeqGives Fence.wide 2 Tryz.prog 82 #[.pointer (some ⟨w.heap.size, 0, none⟩)] encZ (fun ss => ss.Perm (intKeys D)) (Maps.size D) (w.alloc (.cells #[.map (some M)] 119)) :=
    AnyZI.keys_gives (ρ := zRen) { keysLays with } Fence.wide _ trivial rfl (by omega) w.heap.size M tr.length D _ (by simp) (by simp) (by
      obtain ⟨es, clock, hb, Ft, hs, hD⟩ := hown
      exact ⟨es, clock, (Below.heap_alloc _ _ M hbl).trans hb, Ft, hs, hD⟩)
  have cK : Calls Tryz.prog 66 #[.map (some M)] w fun e w' => e = .returned (.func (.func 82) #[] #[.pointer (some ⟨w.heap.size, 0, none⟩)]) ∧ w' = w.alloc (.cells #[.map (some M)] 119) := (callsIn_wide (n := 5)).1 (AnyZI.keys_in keysLays Fence.wide 5 trivial rfl (some M) w)
  have cS := AnyZI.sorted_in sortedLays Fence.wide 5 trivial trivial trivial trivial rfl (by omega) (sortsInt _) (enters_of Tryz.func81 (by kernel_rfl) rfl) 82 #[.pointer (some ⟨w.heap.size, 0, none⟩)] trivial (enters_of Tryz.func82 (by kernel_rfl) rfl) _ _ (by rw [hsz]; unfold maxLen; omega) (by rw [hsz]; omega) _ hseq
  change CallsIn _ _ Tryz.prog 65 _ _ _ at cS
  have CK := Lib.hid cK
  have CS := Lib.hid (callsIn_wide.1 cS)
  have p0 := hs.blk.cell 0 (v := .map (some M)) rfl
  have hPl := hs.blk.lt
  have hQ : Hid (∀ (v : Value) (ss : List Int) w', ss.Perm (intKeys D) → w'.ownsRow (w.alloc (.cells #[.map (some M)] 119)).heap.size 2 1 v ss.length ((ss.mergeSort (fun x y => decide (x ≤ y))).map encZ) → Below (w.alloc (.cells #[.map (some M)] 119)).heap.size (w.alloc (.cells #[.map (some M)] 119)) w' → ∃ u, Ending.returned v = .returned u ∧ IntsOwn w' w.heap.size u (tr.mergeSort leI) ∧ Gr w w') := fun v ss w' h1 h2 h3 => by
    refine ⟨v, rfl, ?_, ((Below.refl _ w).alloc (Nat.le_refl _) _).trans (h3.mono (by simp))⟩
    have h4 := mergeSort_of_perm_i (h1.trans hperm)
    unfold IntsOwn
    rw [← h4, List.length_mergeSort]
    exact ownsRow_base_a h2 (by simp)
  generalize hQe : (fun (e : Ending) (w' : World) => ∃ v, e = .returned v ∧ IntsOwn w' w.heap.size v (tr.mergeSort leI) ∧ Gr w w') = Q
  have HQ : Hid (∀ (v : Value) (ss : List Int) w', ss.Perm (intKeys D) → w'.ownsRow (w.alloc (.cells #[.map (some M)] 119)).heap.size 2 1 v ss.length ((ss.mergeSort (fun x y => decide (x ≤ y))).map encZ) → Below (w.alloc (.cells #[.map (some M)] 119)).heap.size (w.alloc (.cells #[.map (some M)] 119)) w' → Q (.returned v) w') := fun v ss w' h1 h2 h3 => by
    rw [← hQe]
    exact hQ.out v ss w' h1 h2 h3
  clear hs cK cS hown hseq hsz hperm hQ hQe hbl
  go_enter Tryz.func43, Tryz.ntmps43
  try simp only [List.append_eq, List.cons_append, List.nil_append]
  go_wp2_with fail
  refine CK.out.mono ?_
  rintro e w' ⟨rfl, rfl⟩
  go_wp2_with fail
  refine CS.out.mono ?_
  rintro e w' ⟨v, ss, rfl, hS, hrow, hnil, hb⟩
  have Hfin := Lib.hid (HQ.out v ss w' hS hrow hb)
  clear hrow hnil hb hS
  go_wp2_with fail
  exact Hfin.out
end Go.Proofs.YtjdoflfdlhpbmaaGreat

namespace Go.Proofs.YtjdoflfdlhpbmaaGreat
open Go.RowKit

theorem formedL_prefix {l : List Tm} (k : Nat) (h : T.formedL (Tm.eraseL (l.take k)) = false) : T.formedL (Tm.eraseL l) = false := by
  induction l generalizing k with
  | nil => simp at h; exact h
  | cons x xs ih =>
    cases k with
    | zero => simp [Tm.eraseL, T.formedL] at h
    | succ k =>
      simp only [List.take_succ_cons, Tm.eraseL, T.formedL, Bool.and_eq_false_iff] at h ⊢
      exact h.imp id (ih k)

set_option maxHeartbeats 1000000 in
set_option maxRecDepth 100000 in
theorem rformed_leaf (k n : Int) (s : ByteArray) (p : Option Addr) (c : Nat) (l : List Tm) (w : World) (h : (Tm.mk k n s p c l).In w) (hk4 : k ≠ 4) :
    Calls Tryz.prog 8 #[(Tm.mk k n s p c l).val] w (Ret (.bool (T.formed (Tm.mk k n s p c l).erase)) w) := by
  rw [Tm.In] at h
  obtain ⟨⟨hk5, hk6⟩, ⟨hn1, hn2⟩, hs, hl, hc, _, _⟩ := h
  simp only [Tm.val, Tm.k, Tm.n, Tm.s, Tm.p, Tm.c, Tm.l, Tm.erase, T.formed, Tm.eraseL_length, toList_length]
  generalize hr : (if k = 1 then _ else _ : Bool) = r
  have Hr := Lib.hid hr
  clear hr
  by_cases hk1 : k = 1
  · subst hk1
    go_enter Tryz.func8, Tryz.ntmps8
    go_wp2_with fail
    all_goals
      go_ret
      refine ret_bool ?_ (by go_grown)
      refine Eq.trans ?_ Hr.out
      clear Hr
      first | (simp [*]; done) | (simp_all; done) | (simp_all; omega)
  by_cases hk2 : k = 2
  · subst hk2
    go_enter Tryz.func8, Tryz.ntmps8
    go_wp2_with fail
    all_goals
      go_ret
      refine ret_bool ?_ (by go_grown)
      refine Eq.trans ?_ Hr.out
      clear Hr
      first | (simp [*, len_beq_zero]; done) | (simp_all [len_beq_zero]; done) | (simp_all [len_beq_zero]; omega)
  by_cases hk3 : k = 3
  · subst hk3
    go_enter Tryz.func8, Tryz.ntmps8
    go_wp2_with fail
    all_goals
      go_ret
      refine ret_bool ?_ (by go_grown)
      refine Eq.trans ?_ Hr.out
      clear Hr
      first | (simp [*, len_beq_zero]; done) | (simp_all [len_beq_zero]; done) | (simp_all [len_beq_zero]; omega)
  · have Hfin : Hid (r = false) := by
      refine Hr.out.symm.trans ?_
      simp [hk1, hk2, hk3, hk4]
    clear Hr
    have hk1' : (k == 1) = false := by simp [hk1]
    have hk2' : (k == 2) = false := by simp [hk2]
    have hk3' : (k == 3) = false := by simp [hk3]
    have hk4' : (k == 4) = false := by simp [hk4]
    clear hk1 hk2 hk3 hk4
    go_enter Tryz.func8, Tryz.ntmps8
    go_wp2_with fail
    all_goals
      go_rounds 1
      go_ret
      exact ret_bool Hfin.out.symm (by go_grown)

set_option maxHeartbeats 1000000 in
set_option maxRecDepth 100000 in
theorem rformed_bad (n : Int) (s : ByteArray) (p : Option Addr) (c : Nat) (l : List Tm) (w : World) (h : (Tm.mk 4 n s p c l).In w) (hg : ¬ (n = 0 ∧ s.size ≤ 100 ∧ 1 ≤ l.length ∧ l.length ≤ 50)) :
    Calls Tryz.prog 8 #[(Tm.mk 4 n s p c l).val] w (Ret (.bool false) w) := by
  rw [Tm.In] at h
  obtain ⟨_, ⟨hn1, hn2⟩, hs, hl, hc, _, _⟩ := h
  simp only [Tm.val, Tm.k, Tm.n, Tm.s, Tm.p, Tm.c, Tm.l]
  by_cases h1 : n = 0
  · subst h1
    by_cases h2 : s.size ≤ 100
    · have h2' : (s.size : Int) ≤ 100 := by omega
      by_cases h3 : 1 ≤ l.length
      · have h3' : (1 : Int) ≤ l.length := by omega
        have h4 : ¬ (l.length : Int) ≤ 50 := by omega
        clear hg
        go_enter Tryz.func8, Tryz.ntmps8
        go_wp2_with fail
        all_goals
          go_rounds 1
          go_ret
          exact ret_bool rfl (by go_grown)
      · have h3' : ¬ (1 : Int) ≤ l.length := by omega
        clear hg
        go_enter Tryz.func8, Tryz.ntmps8
        go_wp2_with fail
        all_goals
          go_rounds 1
          go_ret
          exact ret_bool rfl (by go_grown)
    · have h2' : ¬ (s.size : Int) ≤ 100 := by omega
      clear hg
      go_enter Tryz.func8, Tryz.ntmps8
      go_wp2_with fail
      all_goals
        go_rounds 1
        go_ret
        exact ret_bool rfl (by go_grown)
  · have h1' : (n == 0) = false := by simp [h1]
    clear hg
    go_enter Tryz.func8, Tryz.ntmps8
    go_wp2_with fail
    all_goals
      go_rounds 1
      go_ret
      exact ret_bool rfl (by go_grown)

set_option maxHeartbeats 1000000 in
set_option maxRecDepth 100000 in
theorem rformed_any (N : Nat) : ∀ (t : Tm) (w : World), SizeOf.sizeOf t ≤ N → t.In w →
    Calls Tryz.prog 8 #[t.val] w (Ret (.bool (T.formed t.erase)) w) := by
  induction N with
  | zero => intro t w h _; cases t; simp at h
  | succ N ih =>
    intro t w hN h
    obtain ⟨k, n, s, p, c, l⟩ := t
    by_cases hk4 : k = 4
    · subst hk4
      have hr : T.formed (Tm.mk 4 n s p c l).erase = (decide (n = 0) && decide (s.size ≤ 100) && decide (1 ≤ l.length) && decide (l.length ≤ 50) && T.formedL (Tm.eraseL l)) := by
        simp only [Tm.erase, T.formed, Tm.eraseL_length, toList_length]
        rfl
      by_cases hg : n = 0 ∧ s.size ≤ 100 ∧ 1 ≤ l.length ∧ l.length ≤ 50
      · obtain ⟨rfl, h2, h3, h4⟩ := hg
        rw [hr]
        have hr2 : (decide ((0 : Int) = 0) && decide (s.size ≤ 100) && decide (1 ≤ l.length) && decide (l.length ≤ 50) && T.formedL (Tm.eraseL l)) = T.formedL (Tm.eraseL l) := by
          simp [h2, h3, h4]
        rw [hr2]
        clear hr hr2
        have H := Lib.hid h.sl
        have hsz := fun x (hx : x ∈ l) => Tm.sizeOf_mem hx 4 0 s p c
        rw [Tm.In] at h
        obtain ⟨_, _, hs, hl, hc, _, _⟩ := h
        have Hsz := Lib.hid hsz
        have Hih := Lib.hid ih
        clear hsz ih
        simp only [Tm.val, Tm.k, Tm.n, Tm.s, Tm.p, Tm.c, Tm.l]
        generalize hr : T.formedL (Tm.eraseL l) = r
        have Hr := Lib.hid hr
        clear hr
        obtain ⟨b, o, rfl⟩ := H.out.ptr (by omega)
        have h2' : (s.size : Int) ≤ 100 := by omega
        have h3' : (1 : Int) ≤ l.length := by omega
        have h4' : (l.length : Int) ≤ 50 := by omega
        go_enter Tryz.func8, Tryz.ntmps8
        go_wp2_with fail
        all_goals
          go_loopw [5, 6] (fun v5 v6 wr => ∃ (k : Nat) (ok : Bool), k ≤ l.length ∧ v5 = .bool ok ∧ v6 = .int .i64 k ∧ Hid (T.formedL (Tm.eraseL (l.take k)) = ok) ∧ Gr w wr ∧
              w.heap.size + 1 ≤ wr.heap.size ∧ wr.cell? ⟨w.heap.size, 3, none⟩ = some (.slice (some ⟨b, o, none⟩) l.length c))
            (fun _ i _ => l.length - (intOf i).toNat)
          case atStart => exact ⟨0, true, Nat.zero_le _, rfl, rfl, rfl, by go_grown, by simp, by go_cell⟩
          case round =>
            obtain ⟨k, ok, hk, rfl, rfl, hpre, hb, hbs, b1⟩ := hrel
            cases ok
            · go_wp2_with fail
              go_ret
              refine ret_bool ?_ hb
              rw [← Hr.out, formedL_prefix k hpre.out]
            · by_cases hlt : k < l.length
              · have hS := H.out.mono hb
                obtain ⟨⟨c0, c1, c2, c3⟩, hx, _⟩ := hS.elem k hlt
                have Hx := Lib.hid hx
                have hmem : l[k] ∈ l := List.getElem_mem hlt
                have Hz := Hsz.out _ hmem
                clear hS hx
                generalize hxe : l[k] = x at *
                go_wp2_with fail
                refine (Hih.out x _ (by omega) (Tm.In_below (by go_grown) Hx.out)).mono ?_
                rintro e w1 ⟨rfl, hb1⟩
                have b1' := Gr.at hb1 b1
                have hs1 := hb1.size
                generalize hxf : x.erase.formed = bx
                have Hxf := Lib.hid hxf
                clear hxf b1
                have Htk : Hid (T.formedL (Tm.eraseL (l.take (k + 1))) = bx) := by
                  have h9 := formedL_take l k hlt
                  rw [hpre.out, hxe, Hxf.out] at h9
                  exact h9
                go_wp2_with fail
                go_roundw
                case rel => exact ⟨k + 1, bx, by omega, rfl, by go_num, Htk.out, below_step hb1 (by go_grown), by omega, b1'⟩
                case measure => simp [intOf]; omega
              · go_wp2_with fail
                go_ret
                refine ret_bool ?_ hb
                rw [← Hr.out, ← hpre.out, List.take_of_length_le (by omega)]
      · have : T.formed (Tm.mk 4 n s p c l).erase = false := by
          rw [hr, Bool.eq_false_iff]
          intro h9
          simp only [Bool.and_eq_true, decide_eq_true_eq] at h9
          exact hg ⟨h9.1.1.1.1, h9.1.1.1.2, h9.1.1.2, h9.1.2⟩
        rw [this]
        exact rformed_bad n s p c l w h hg
    · exact rformed_leaf k n s p c l w h hk4

/-- hornref.Formed, of whatever term. -/
theorem rformed_calls {t : Tm} {w : World} (h : t.In w) : Calls Tryz.prog 8 #[t.val] w (Ret (.bool (T.formed t.erase)) w) :=
  rformed_any _ t w (Nat.le_refl _) h

end Go.Proofs.YtjdoflfdlhpbmaaGreat
