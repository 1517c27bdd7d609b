/-
  grammar.guard
-/
import Derived.Test.YteonakicoomjkaaGM24
namespace Go.Proofs.Yteonakicoomjkaa
open Go.RowKit

/-- A whole new term is handed back, or what can't be is thrown. -/
def RetF (r : Option T) (w : World) (e : Ending) (w' : World) : Prop :=
  (∃ u, r = some u ∧ ∃ b : Tm, e = .returned b.val ∧ b.In w' ∧ b.erase = u ∧ b.Whole w' ∧ b.On (w.heap.size ≤ ·) ∧ Gr w w') ∨ (r = none ∧ WrongE e ∧ Gr w w')
/-- A whole new term is handed back, and an error's number. -/
def RetGd (r : Option T) (w : World) (e : Ending) (w' : World) : Prop :=
  ∃ (b : Tm) (c : Int), e = .returned (.tuple #[b.val, .int .i64 c]) ∧ b.In w' ∧ b.erase = r.getD zeroT ∧ b.Whole w' ∧ b.On (w.heap.size ≤ ·) ∧ Gr w w' ∧ (r.isSome = true → c = 0)

theorem whole_kp {t : Tm} {C : Nat → Prop} {S : Nat → Prop} {w w' : World} (hw : t.Whole w) (hin : t.In w) (hon : t.On S) (hS : ∀ b, S b → ¬ C b) (hk : Kp C w w') : t.Whole w' :=
  Tm.Whole.same (S := fun b => S b ∧ b < w.heap.size) (fun b hb => hk.block b hb.2 (hS b hb.1)) (Tm.On.and hon hin.on) hw

set_option maxHeartbeats 4000000 in
set_option maxRecDepth 100000 in
theorem guard_calls (fid : FuncId) (cap : Array Value) (r : Option T) (w : World) (hq : ∀ W : World, (callFunc fid (#[] ++ cap)).run Try.prog W = .ok (.enter fid (#[] ++ cap)) W) (hcall : ∀ W, Gr w W → Calls Try.prog fid (#[] ++ cap) W (RetF r W)) :
    Calls Try.prog 77 #[.func (.func fid) #[] cap] w (RetGd r w) := by
  have hmf : ∀ (fn : Fn) (first cap : Array Value) (w : World), (Instr.makeFunc fn first cap).run Try.prog w = .ok (.func fn first cap) w := fun _ _ _ _ => rfl
  have Hcall := Lib.hid hcall
  clear hcall
  simp only [Array.empty_append] at hq Hcall
  generalize hQ : RetGd r w = Q
  have HQ := Lib.hid hQ
  clear hQ
  go_enter_defers Try.func77, Try.ntmps77
  go_wp2_with fail
  have gA : Gr w ((w.alloc (.cells #[.int .i64 0, .int .i64 0, .string ⟨#[]⟩, .slice none 0 0] 24)).alloc (.cells #[.int .i64 0] 25)) := by go_grown
  have hR := Blk4.old (Blk4.new w (.int .i64 0) (.int .i64 0) (.string ⟨#[]⟩) (.slice none 0 0)) (.cells #[.int .i64 0] 25)
  have hE := heap_alloc_new (w.alloc (.cells #[.int .i64 0, .int .i64 0, .string ⟨#[]⟩, .slice none 0 0] 24)) (.cells #[.int .i64 0] 25)
  simp only [World.size_alloc] at hE
  have hsz : ((w.alloc (.cells #[.int .i64 0, .int .i64 0, .string ⟨#[]⟩, .slice none 0 0] 24)).alloc (.cells #[.int .i64 0] 25)).heap.size = w.heap.size + 2 := by simp
  generalize (w.alloc (.cells #[.int .i64 0, .int .i64 0, .string ⟨#[]⟩, .slice none 0 0] 24)).alloc (.cells #[.int .i64 0] 25) = wA at *
  have HSz := Lib.hid hsz
  clear hsz
  refine (Hcall.out _ gA).mono ?_
  rintro e w1 (⟨u, hu, ⟨kb, nb, sb, pb, cb, lb⟩, rfl, hin, he, hwh, hon, hg⟩ | ⟨hu, ⟨c, rfl⟩, hg⟩)
  · have hsz := HSz.out
    obtain ⟨⟨x0, x1, x2, x3⟩, ⟨f0, f1, f2, f3⟩, hlt⟩ := (hR.gr hg).parts
    have hE1 := (hg.block _ (Array.getElem?_eq_some_iff.1 hE).1).trans hE
    have y0 := cell_of_row w1 (w.heap.size + 1) 0 _ _ _ hE1
    have g0 := frozen_of_row w1 (w.heap.size + 1) 0 _ _ hE1
    simp only [List.getElem?_toArray, List.getElem?_cons_zero] at y0
    have g1 : Gr w w1 := gA.trans hg
    have HB := Lib.hid (And.intro hin (And.intro he (And.intro hwh (And.intro hon hu))))
    clear hin he hwh hon hu hE hR hE1 hg hsz
    rw [tm_val]
    go_wp2_with fail
    refine leaves_cons (f := 142) (args := #[.pointer (some ⟨w.heap.size, 0, none⟩), .pointer (some ⟨w.heap.size + 1, 0, none⟩)]) (by simp) (by simp [go_sem]) ?_
    refine (guard_idle _ _ _).mono ?_
    rintro e u' w'' ⟨rfl, rfl, rfl⟩
    show ∃ v, _ ∧ _
    refine ⟨.tuple #[(Tm.mk kb nb sb pb cb lb).val, .int .i64 0], by simp (maxDischargeDepth := 9) [results, Try.results77, go_sem, World.cell?_setCell_other, World.cell?_setCell_same', x0, x1, x2, x3, y0, tm_val], ?_⟩
    rw [← HQ.out]
    obtain ⟨hin, he, hwh, hon, hu⟩ := HB.out
    have hsz := HSz.out
    have k5 : ∀ v0 v1 v2 v3 v4 : Value, Kp (fun b => b = w.heap.size ∨ b = w.heap.size + 1) w1 (((((w1.setCell ⟨w.heap.size, 0, none⟩ v0).setCell ⟨w.heap.size, 1, none⟩ v1).setCell ⟨w.heap.size, 2, none⟩ v2).setCell ⟨w.heap.size, 3, none⟩ v3).setCell ⟨w.heap.size + 1, 0, none⟩ v4) := fun v0 v1 v2 v3 v4 =>
      (Kp.set4 (.inl rfl)).trans (Kp.set (.inr rfl))
    have hne : ∀ b, wA.heap.size ≤ b → ¬ (b = w.heap.size ∨ b = w.heap.size + 1) := fun b hb h => by omega
    refine ⟨_, 0, rfl, in_kp hin hon hne (k5 _ _ _ _ _), by rw [hu, he]; rfl, whole_kp hwh hin hon hne (k5 _ _ _ _ _), hon.mono fun b hb => (by have : wA.heap.size ≤ b := hb; omega), Below.trans g1 ((k5 _ _ _ _ _).below (fun b hb => by rcases hb with hb | hb <;> omega) g1.size), fun _ => rfl⟩
  · have hsz := HSz.out
    obtain ⟨⟨x0, x1, x2, x3⟩, ⟨f0, f1, f2, f3⟩, hlt⟩ := (hR.gr hg).parts
    have hE1 := (hg.block _ (Array.getElem?_eq_some_iff.1 hE).1).trans hE
    have y0 := cell_of_row w1 (w.heap.size + 1) 0 _ _ _ hE1
    have g0 := frozen_of_row w1 (w.heap.size + 1) 0 _ _ hE1
    simp only [List.getElem?_toArray, List.getElem?_cons_zero] at y0
    have g1 : Gr w w1 := gA.trans hg
    clear hE hR hE1 hg hsz
    go_wp2_with fail
    refine leaves_cons (f := 142) (args := #[.pointer (some ⟨w.heap.size, 0, none⟩), .pointer (some ⟨w.heap.size + 1, 0, none⟩)]) (by simp) (by simp [go_sem]) ?_
    refine (guard_panicking w.heap.size (w.heap.size + 1) c w1 _ _ _ _ _ (by omega) x0 x1 x2 x3 y0 f0 f1 f2 f3 g0).mono ?_
    rintro e u' w'' ⟨rfl, rfl, ⟨z0, z1, z2, z3⟩, z4, hbel⟩
    show ∃ v, _ ∧ _
    refine ⟨.tuple #[zeroTm.val, .int .i64 c], by simp (maxDischargeDepth := 9) [results, Try.results77, go_sem, z0, z1, z2, z3, z4, zeroTm, tm_val], ?_⟩
    rw [← HQ.out, hu]
    exact ⟨zeroTm, c, rfl, zeroTm_in _, zeroTm_erase, zero_whole _, by rw [zeroTm, Tm.On, Tm.OnL]; exact ⟨.inl rfl, trivial⟩, Below.trans g1 hbel, fun h => by cases h⟩
end Go.Proofs.Yteonakicoomjkaa
