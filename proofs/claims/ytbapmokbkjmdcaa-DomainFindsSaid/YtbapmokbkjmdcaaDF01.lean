/-
  The order of solutions: plain; hornkeep.before.
-/
import Derived.Test.YtbapmokbkjmdcaaDO01
namespace Go.Proofs.Ytbapmokbkjmdcaa
open Go.RowKit Go.Maps Go.Lib

/-- Which comes ahead. -/
def befL : List Int → List Int → Bool
  | x :: xs, y :: ys => if x = y then befL xs ys else decide (x < y)
  | _, _ => false
theorem befL_at : ∀ {a b : List Int} {i : Nat}, a.length = b.length → i < a.length → (∀ k, k < i → a[k]? = b[k]?) → a.getD i 0 ≠ b.getD i 0 → befL a b = decide (a.getD i 0 < b.getD i 0)
  | [], _, _, _, h, _, _ => by simp at h
  | _ :: _, [], _, h, _, _, _ => by simp at h
  | x :: xs, y :: ys, 0, _, _, _, hne => by
    have hne : x ≠ y := by simpa using hne
    rw [befL, if_neg hne]; simp
  | x :: xs, y :: ys, i + 1, hl, hi, hs, hne => by
    have h0 : x = y := by simpa using hs 0 (by omega)
    rw [befL, if_pos h0]
    have := befL_at (a := xs) (b := ys) (i := i) (by simpa using hl) (by simpa using hi) (fun k hk => by simpa using hs (k + 1) (by omega)) (by simpa using hne)
    simpa using this
theorem befL_same : ∀ {a b : List Int}, a.length = b.length → (∀ k, k < a.length → a[k]? = b[k]?) → befL a b = false
  | [], _, _, _ => by cases ‹List Int› <;> rfl
  | _ :: _, [], h, _ => by simp at h
  | x :: xs, y :: ys, hl, hs => by
    have h0 : x = y := by simpa using hs 0 (by simp)
    rw [befL, if_pos h0]
    exact befL_same (by simpa using hl) (fun k hk => by simpa using hs (k + 1) (by simp; omega))
theorem prodL_rise : ∀ {D : List (List Int)}, (∀ d ∈ D, d.Pairwise (· < ·)) → (prodL D).Pairwise (fun a b => befL a b = true)
  | [], _ => by simp [prodL]
  | d :: ds, h => by
    have ih := prodL_rise fun d hd => h d (List.mem_cons_of_mem _ hd)
    have hd := h d (List.mem_cons_self ..)
    rw [prodL, List.pairwise_flatMap]
    refine ⟨fun x _ => ?_, hd.imp fun {x y} hxy a ha b hb => ?_⟩
    · rw [List.pairwise_map]
      exact ih.imp fun {a b} hab => by rw [befL, if_pos rfl]; exact hab
    · obtain ⟨a', _, rfl⟩ := List.mem_map.1 ha
      obtain ⟨b', _, rfl⟩ := List.mem_map.1 hb
      rw [befL, if_neg (by omega)]
      exact decide_eq_true hxy
theorem sols_rise {C : List Con} {D : List (List Int)} (h : ∀ d ∈ D, d.Pairwise (· < ·)) (m : Nat) : ((sols C D).take m).Pairwise (fun a b => befL a b = true) :=
  ((prodL_rise h).filter _).sublist (List.take_sublist ..)
theorem rise_at {L : List (List Int)} (h : L.Pairwise (fun a b => befL a b = true)) {i : Nat} {a b : List Int} (ha : L[i]? = some a) (hb : L[i + 1]? = some b) : befL a b = true := by
  obtain ⟨h1, rfl⟩ := List.getElem?_eq_some_iff.1 ha
  obtain ⟨h2, rfl⟩ := List.getElem?_eq_some_iff.1 hb
  exact List.pairwise_iff_getElem.1 h i (i + 1) h1 h2 (by omega)

set_option maxHeartbeats 2000000 in
set_option maxRecDepth 100000 in
theorem before_calls (p q : Option Addr) (c d : Nat) (a b : List Int) (w : World) (hx : IntSl w p c a) (hy : IntSl w q d b) (hl : a.length = b.length) :
    Calls Try.prog 21 #[.slice p a.length c, .slice q b.length d] w (Ret (.bool (befL a b)) w) := by
  have hR : Hid (∀ v, befL a b = v → ∀ w', Gr w w' → Ret (.bool (befL a b)) w (.returned (.bool v)) w') := fun v hv w' hg => ⟨by rw [hv], hg⟩
  generalize hQ : Ret (.bool (befL a b)) w = Q at hR ⊢
  clear hQ
  have hlc : a.length ≤ c := hx.1
  have hc : c ≤ 9223372036854775807 := hx.2.1
  have hlc2 : b.length ≤ d := hy.1
  have hc2 : d ≤ 9223372036854775807 := hy.2.1
  have H := Lib.hid hx
  have K := Lib.hid hy
  have HL := Lib.hid hl
  have HAt : Hid (∀ i x y, a[i]? = some x → b[i]? = some y → (∀ k, k < i → a[k]? = b[k]?) → x ≠ y → befL a b = decide (x < y)) := fun i x y h1 h2 h3 h4 => by
    have e1 : a.getD i 0 = x := by rw [List.getD_eq_getElem?_getD, h1]; rfl
    have e2 : b.getD i 0 = y := by rw [List.getD_eq_getElem?_getD, h2]; rfl
    have := befL_at (i := i) hl (List.getElem?_eq_some_iff.1 h1).1 h3 (by rw [e1, e2]; exact h4)
    rw [e1, e2] at this
    exact this
  have HSm : Hid ((∀ k, k < a.length → a[k]? = b[k]?) → befL a b = false) := befL_same hl
  generalize befL a b = r at *
  clear hx hy hl
  go_enter Try.func21, Try.ntmps21
  try simp only [List.append_eq, List.cons_append, List.nil_append]
  go_wp2_with fail
  go_loopg [5] a.length (fun m i wr => ∃ k : Nat, k ≤ a.length ∧ m = a.length - k ∧ i = .int .i64 k ∧ Gr w wr ∧ Hid (∀ i, i < k → a[i]? = b[i]?))
  case atStart => exact ⟨0, Nat.zero_le _, rfl, rfl, Gr.rfl' _, fun i hi => by omega⟩
  case round =>
    obtain ⟨k, hk, rfl, rfl, gr, hsm⟩ := hrel
    by_cases hlt : k < a.length
    case neg =>
      obtain rfl : k = a.length := by omega
      have HF := Lib.hid (HSm.out hsm.out)
      clear hsm
      go_wp2_with fail
      exact hR.out _ HF.out _ gr
    have hlt2 : k < b.length := by rw [← HL.out]; exact hlt
    obtain ⟨b1, o1, rfl, _, hr⟩ := (H.out.mono gr).ptr (by omega)
    obtain ⟨b2, o2, rfl, _, hr'⟩ := (K.out.mono gr).ptr (by omega)
    obtain ⟨y, hy⟩ : ∃ y, a[k]? = some y := ⟨_, List.getElem?_eq_getElem hlt⟩
    obtain ⟨z, hz⟩ : ∃ z, b[k]? = some z := ⟨_, List.getElem?_eq_getElem hlt2⟩
    have c0 := hr k _ hy
    have d0 := hr' k _ hz
    have HY := Lib.hid hy
    have HZ := Lib.hid hz
    clear hr hr' hy hz
    cases he : (y == z) with
    | true =>
      have hne : (y != z) = false := by rw [bne, he]; rfl
      have HN : Hid (∀ i, i < k + 1 → a[i]? = b[i]?) := fun i hi => by
        by_cases hik : i = k
        · rw [hik, HY.out, HZ.out, beq_iff_eq.1 he]
        · exact hsm.out i (by omega)
      go_upto_region 4 with fail
      go_quiet (fail)
      go_wp2_with fail
      go_roundg (a.length - (k + 1))
      case measure => omega
      case rel => exact ⟨k + 1, by omega, rfl, by go_num, gr.drewN _, HN⟩
    | false =>
      have hne : (y != z) = true := by rw [bne, he]; rfl
      obtain ⟨lt, hlt3⟩ : ∃ lt, decide (y < z) = lt := ⟨_, rfl⟩
      have HF := Lib.hid (show r = lt by rw [← hlt3]; exact HAt.out k y z HY.out HZ.out hsm.out (fun e => by simp [e] at he))
      go_upto_region 4 with fail
      go_quiet (fail)
      go_upto_region 5 with fail
      go_quiet (fail)
      go_wp2_with fail
      exact hR.out _ HF.out _ ((gr.drewN _).drewN _)
end Go.Proofs.Ytbapmokbkjmdcaa
