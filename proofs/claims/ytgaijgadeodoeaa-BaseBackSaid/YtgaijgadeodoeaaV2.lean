/-
  term.Is, hornref.Is, base.Callable, term.A, hornref.A
-/
import Derived.Test.YtgaijgadeodoeaaV1
namespace Go.Proofs.Ytgaijgadeodoeaa
open Go.RowKit

theorem isOf_eq (t : Tm) (s : ByteArray) (n : Int) : t.erase.isOf s.toList n = ((t.k == 4 || t.k == 3) && (t.s.toList == s.toList) && ((t.l.length : Int) == n)) := by
  obtain ⟨k, n', s', p, c, l⟩ := t
  have h1 : (s'.toList == s.toList) = decide (s'.toList = s.toList) := by rw [Bool.eq_iff_iff]; simp
  show _ = ((k == 4 || k == 3) && (s'.toList == s.toList) && ((l.length : Int) == n))
  rw [h1, ← Tm.eraseL_length l]
  rfl

set_option maxHeartbeats 1000000 in
set_option maxRecDepth 100000 in
theorem is_calls (t : Tm) (s : ByteArray) (n : Int) (w : World) : Calls Try.prog 65 #[t.val, .string s, .int .i64 n] w (Ret (.bool (t.erase.isOf s.toList n)) w) := by
  have hR : Hid (∀ b, t.erase.isOf s.toList n = b → ∀ w', Gr w w' → Ret (.bool (t.erase.isOf s.toList n)) w (.returned (.bool b)) w') := fun b hb w' hg => ⟨by rw [hb], hg⟩
  rw [isOf_eq] at hR ⊢
  generalize hQ : Ret _ w = Q at hR ⊢
  clear hQ
  obtain ⟨k, n', s', p, c, l⟩ := t
  simp only [Tm.val, Tm.k, Tm.n, Tm.s, Tm.p, Tm.c, Tm.l] at hR ⊢
  cases h4 : (k == 4) <;> cases h3 : (k == 3) <;> cases hs : (s'.toList == s.toList) <;> cases hl : ((l.length : Int) == n) <;> rw [h4, h3, hs, hl] at hR
  all_goals
    go_enter Try.func65, Try.ntmps65
    go_wp2_with fail
    exact hR.out _ rfl _ (by go_grown)

set_option maxHeartbeats 1000000 in
set_option maxRecDepth 100000 in
theorem ris_calls (t : Tm) (s : ByteArray) (n : Int) (w : World) : Calls Try.prog 61 #[t.val, .string s, .int .i64 n] w (Ret (.bool (t.erase.isOf s.toList n)) w) := by
  have hR : Hid (∀ b, t.erase.isOf s.toList n = b → ∀ w', Gr w w' → Ret (.bool (t.erase.isOf s.toList n)) w (.returned (.bool b)) w') := fun b hb w' hg => ⟨by rw [hb], hg⟩
  rw [isOf_eq] at hR ⊢
  generalize hQ : Ret _ w = Q at hR ⊢
  clear hQ
  obtain ⟨k, n', s', p, c, l⟩ := t
  simp only [Tm.val, Tm.k, Tm.n, Tm.s, Tm.p, Tm.c, Tm.l] at hR ⊢
  cases h4 : (k == 4) <;> cases h3 : (k == 3) <;> cases hs : (s'.toList == s.toList) <;> cases hl : ((l.length : Int) == n) <;> rw [h4, h3, hs, hl] at hR
  all_goals
    go_enter Try.func61, Try.ntmps61
    go_wp2_with fail
    exact hR.out _ rfl _ (by go_grown)

set_option maxHeartbeats 1000000 in
theorem callable_calls (t : Tm) (w : World) : Calls Try.prog 83 #[t.val] w (Ret (.bool t.erase.callable) w) := by
  have hc : t.erase.callable = (t.k == 3 || t.k == 4) := by obtain ⟨k, n', s', p, c, l⟩ := t; rfl
  rw [hc]
  have hR : Hid (∀ b, (t.k == 3 || t.k == 4) = b → ∀ w', Gr w w' → Ret (.bool (t.k == 3 || t.k == 4)) w (.returned (.bool b)) w') := fun b hb w' hg => ⟨by rw [hb], hg⟩
  generalize hQ : Ret _ w = Q at hR ⊢
  clear hQ hc
  obtain ⟨k, n', s', p, c, l⟩ := t
  simp only [Tm.val, Tm.k, Tm.n, Tm.s, Tm.p, Tm.c, Tm.l] at hR ⊢
  cases h3 : (k == 3) <;> cases h4 : (k == 4) <;> rw [h3, h4] at hR
  all_goals
    go_enter Try.func83, Try.ntmps83
    go_wp2_with fail
    exact hR.out _ rfl _ (by go_grown)

theorem atomA_calls (s : ByteArray) (w : World) : Calls Try.prog 81 #[.string s] w (Ret (.agg #[.int .i64 3, .int .i64 0, .string s, .slice none 0 0]) w) := by
  go_enter Try.func81, Try.ntmps81
  go_wp2_with fail
  exact bodyPost_ret (v := .agg #[.int .i64 3, .int .i64 0, .string s, .slice none 0 0]) (by simp [results, Try.results81, go_sem]) rfl ⟨rfl, by go_grown⟩

theorem atomR_calls (s : ByteArray) (w : World) : Calls Try.prog 56 #[.string s] w (Ret (.agg #[.int .i64 3, .int .i64 0, .string s, .slice none 0 0]) w) := by
  go_enter Try.func56, Try.ntmps56
  go_wp2_with fail
  exact bodyPost_ret (v := .agg #[.int .i64 3, .int .i64 0, .string s, .slice none 0 0]) (by simp [results, Try.results56, go_sem]) rfl ⟨rfl, by go_grown⟩

end Go.Proofs.Ytgaijgadeodoeaa
