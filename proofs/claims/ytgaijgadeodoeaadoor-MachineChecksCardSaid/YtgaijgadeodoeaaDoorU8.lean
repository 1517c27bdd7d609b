/-
  hornref.con
-/
import Derived.Test.YtgaijgadeodoeaaDoorU6
namespace Go.Proofs.YtgaijgadeodoeaaDoor
open Go.RowKit

set_option maxHeartbeats 1000000 in
set_option maxRecDepth 100000 in
theorem con_k (x : Cn) (w : World) (m : Int) (hm : w.cell? ⟨0, 0, none⟩ = some (.int .i64 m)) : Calls Tryd.prog 52 #[x.val, .int .u8 107] w (Ret (.bool (conOk 107 x)) w) := by
  have hR : Hid (∀ b, conOk 107 x = b → ∀ w', Gr w w' → Ret (.bool (conOk 107 x)) w (.returned (.bool b)) w') := fun b hb w' hg => ⟨by rw [hb], hg⟩
  generalize hQ : Ret (.bool (conOk 107 x)) w = Q at hR ⊢
  clear hQ
  obtain ⟨k, s, n⟩ := x
  simp only [Cn.val]
  have HM := Lib.hid hm
  clear hm
  by_cases hs : (s.size : Int) ≤ 100
  · by_cases h3 : k = 3
    · subst h3
      by_cases hn : n = 0
      · subst hn
        have hv := Lib.hid (show conOk 107 ⟨3, s, 0⟩ = true by simp [conOk, constant, hs])
        clear HM
        go_enter Tryd.func52, Tryd.ntmps52
        go_wp2_with fail
        exact hR.out _ hv.out _ (by go_grown)
      · have hn2 : (n == 0) = false := by simpa using hn
        have hv := Lib.hid (show conOk 107 ⟨3, s, n⟩ = false by simp [conOk, constant, hn])
        clear HM
        go_enter Tryd.func52, Tryd.ntmps52
        go_wp2_with fail
        exact hR.out _ hv.out _ (by go_grown)
    have k3 : (k == 3) = false := by simpa using h3
    by_cases h2 : k = 2
    · subst h2
      cases he : s.toList.isEmpty with
      | true =>
        have hv := Lib.hid (show conOk 107 ⟨2, s, n⟩ = true by simp [conOk, constant, List.isEmpty_iff.1 he])
        clear HM
        go_enter Tryd.func52, Tryd.ntmps52
        go_wp2_with fail
        exact hR.out _ hv.out _ (by go_grown)
      | false =>
        have he2 : ¬ s.toList = [] := fun e => by rw [e] at he; cases he
        have hv := Lib.hid (show conOk 107 ⟨2, s, n⟩ = false by simp [conOk, constant, he2])
        clear HM
        go_enter Tryd.func52, Tryd.ntmps52
        go_wp2_with fail
        exact hR.out _ hv.out _ (by go_grown)
    have k2 : (k == 2) = false := by simpa using h2
    by_cases h4 : k = 4
    · subst h4
      by_cases h0 : 0 ≤ n
      · by_cases h5 : n ≤ 50
        · skip
          have hv := Lib.hid (show conOk 107 ⟨4, s, n⟩ = false by simp [conOk, constant])
          clear HM
          go_enter Tryd.func52, Tryd.ntmps52
          go_wp2_with fail
          exact hR.out _ hv.out _ (by go_grown)
        · skip
          have hv := Lib.hid (show conOk 107 ⟨4, s, n⟩ = false by simp [conOk, constant])
          clear HM
          go_enter Tryd.func52, Tryd.ntmps52
          go_wp2_with fail
          exact hR.out _ hv.out _ (by go_grown)
      · have h0' : ¬ 1 ≤ n := by omega
        have hv := Lib.hid (show conOk 107 ⟨4, s, n⟩ = false by simp [conOk, constant])
        clear HM
        go_enter Tryd.func52, Tryd.ntmps52
        go_wp2_with fail
        exact hR.out _ hv.out _ (by go_grown)
    have k4 : (k == 4) = false := by simpa using h4
    have hv := Lib.hid (show conOk 107 ⟨k, s, n⟩ = false by simp [conOk, constant, h3, h2])
    clear HM
    go_enter Tryd.func52, Tryd.ntmps52
    go_wp2_with fail
    exact hR.out _ hv.out _ (by go_grown)
  · by_cases h3 : k = 3
    · subst h3
      by_cases hn : n = 0
      · subst hn
        have hv := Lib.hid (show conOk 107 ⟨3, s, 0⟩ = false by simp [conOk, constant, hs])
        clear HM
        go_enter Tryd.func52, Tryd.ntmps52
        go_wp2_with fail
        exact hR.out _ hv.out _ (by go_grown)
      · have hn2 : (n == 0) = false := by simpa using hn
        have hv := Lib.hid (show conOk 107 ⟨3, s, n⟩ = false by simp [conOk, constant, hn])
        clear HM
        go_enter Tryd.func52, Tryd.ntmps52
        go_wp2_with fail
        exact hR.out _ hv.out _ (by go_grown)
    have k3 : (k == 3) = false := by simpa using h3
    by_cases h2 : k = 2
    · subst h2
      cases he : s.toList.isEmpty with
      | true =>
        have hv := Lib.hid (show conOk 107 ⟨2, s, n⟩ = true by simp [conOk, constant, List.isEmpty_iff.1 he])
        clear HM
        go_enter Tryd.func52, Tryd.ntmps52
        go_wp2_with fail
        exact hR.out _ hv.out _ (by go_grown)
      | false =>
        have he2 : ¬ s.toList = [] := fun e => by rw [e] at he; cases he
        have hv := Lib.hid (show conOk 107 ⟨2, s, n⟩ = false by simp [conOk, constant, he2])
        clear HM
        go_enter Tryd.func52, Tryd.ntmps52
        go_wp2_with fail
        exact hR.out _ hv.out _ (by go_grown)
    have k2 : (k == 2) = false := by simpa using h2
    by_cases h4 : k = 4
    · subst h4
      have hv := Lib.hid (show conOk 107 ⟨4, s, n⟩ = false by simp [conOk, constant])
      clear HM
      go_enter Tryd.func52, Tryd.ntmps52
      go_wp2_with fail
      exact hR.out _ hv.out _ (by go_grown)
    have k4 : (k == 4) = false := by simpa using h4
    have hv := Lib.hid (show conOk 107 ⟨k, s, n⟩ = false by simp [conOk, constant, h3, h2])
    clear HM
    go_enter Tryd.func52, Tryd.ntmps52
    go_wp2_with fail
    exact hR.out _ hv.out _ (by go_grown)

set_option maxHeartbeats 1000000 in
set_option maxRecDepth 100000 in
theorem con_c (x : Cn) (w : World) (m : Int) (hm : w.cell? ⟨0, 0, none⟩ = some (.int .i64 m)) : Calls Tryd.prog 52 #[x.val, .int .u8 99] w (Ret (.bool (conOk 99 x)) w) := by
  have hR : Hid (∀ b, conOk 99 x = b → ∀ w', Gr w w' → Ret (.bool (conOk 99 x)) w (.returned (.bool b)) w') := fun b hb w' hg => ⟨by rw [hb], hg⟩
  generalize hQ : Ret (.bool (conOk 99 x)) w = Q at hR ⊢
  clear hQ
  obtain ⟨k, s, n⟩ := x
  simp only [Cn.val]
  have HM := Lib.hid hm
  clear hm
  by_cases hs : (s.size : Int) ≤ 100
  · by_cases h3 : k = 3
    · subst h3
      by_cases hn : n = 0
      · subst hn
        have hv := Lib.hid (show conOk 99 ⟨3, s, 0⟩ = false by simp [conOk, counted])
        clear HM
        go_enter Tryd.func52, Tryd.ntmps52
        go_wp2_with fail
        exact hR.out _ hv.out _ (by go_grown)
      · have hn2 : (n == 0) = false := by simpa using hn
        have hv := Lib.hid (show conOk 99 ⟨3, s, n⟩ = false by simp [conOk, counted])
        clear HM
        go_enter Tryd.func52, Tryd.ntmps52
        go_wp2_with fail
        exact hR.out _ hv.out _ (by go_grown)
    have k3 : (k == 3) = false := by simpa using h3
    by_cases h2 : k = 2
    · subst h2
      cases he : s.toList.isEmpty with
      | true =>
        have hv := Lib.hid (show conOk 99 ⟨2, s, n⟩ = false by simp [conOk, counted])
        clear HM
        go_enter Tryd.func52, Tryd.ntmps52
        go_wp2_with fail
        exact hR.out _ hv.out _ (by go_grown)
      | false =>
        have he2 : ¬ s.toList = [] := fun e => by rw [e] at he; cases he
        have hv := Lib.hid (show conOk 99 ⟨2, s, n⟩ = false by simp [conOk, counted])
        clear HM
        go_enter Tryd.func52, Tryd.ntmps52
        go_wp2_with fail
        exact hR.out _ hv.out _ (by go_grown)
    have k2 : (k == 2) = false := by simpa using h2
    by_cases h4 : k = 4
    · subst h4
      by_cases h0 : 0 ≤ n
      · by_cases h5 : n ≤ 50
        · by_cases h1 : 0 < n
          · have h1' : 1 ≤ n := by omega
            have hv := Lib.hid (show conOk 99 ⟨4, s, n⟩ = true by simp [conOk, counted, hs, h1', h5])
            clear HM
            go_enter Tryd.func52, Tryd.ntmps52
            go_wp2_with fail
            exact hR.out _ hv.out _ (by go_grown)
          · have h1' : ¬ 1 ≤ n := by omega
            have hv := Lib.hid (show conOk 99 ⟨4, s, n⟩ = false by simp [conOk, counted, h1'])
            clear HM
            go_enter Tryd.func52, Tryd.ntmps52
            go_wp2_with fail
            exact hR.out _ hv.out _ (by go_grown)
        · skip
          have hv := Lib.hid (show conOk 99 ⟨4, s, n⟩ = false by simp [conOk, counted, h5])
          clear HM
          go_enter Tryd.func52, Tryd.ntmps52
          go_wp2_with fail
          exact hR.out _ hv.out _ (by go_grown)
      · have h0' : ¬ 1 ≤ n := by omega
        have hv := Lib.hid (show conOk 99 ⟨4, s, n⟩ = false by simp [conOk, counted, h0'])
        clear HM
        go_enter Tryd.func52, Tryd.ntmps52
        go_wp2_with fail
        exact hR.out _ hv.out _ (by go_grown)
    have k4 : (k == 4) = false := by simpa using h4
    have hv := Lib.hid (show conOk 99 ⟨k, s, n⟩ = false by simp [conOk, counted, h4])
    clear HM
    go_enter Tryd.func52, Tryd.ntmps52
    go_wp2_with fail
    exact hR.out _ hv.out _ (by go_grown)
  · by_cases h3 : k = 3
    · subst h3
      by_cases hn : n = 0
      · subst hn
        have hv := Lib.hid (show conOk 99 ⟨3, s, 0⟩ = false by simp [conOk, counted])
        clear HM
        go_enter Tryd.func52, Tryd.ntmps52
        go_wp2_with fail
        exact hR.out _ hv.out _ (by go_grown)
      · have hn2 : (n == 0) = false := by simpa using hn
        have hv := Lib.hid (show conOk 99 ⟨3, s, n⟩ = false by simp [conOk, counted])
        clear HM
        go_enter Tryd.func52, Tryd.ntmps52
        go_wp2_with fail
        exact hR.out _ hv.out _ (by go_grown)
    have k3 : (k == 3) = false := by simpa using h3
    by_cases h2 : k = 2
    · subst h2
      cases he : s.toList.isEmpty with
      | true =>
        have hv := Lib.hid (show conOk 99 ⟨2, s, n⟩ = false by simp [conOk, counted])
        clear HM
        go_enter Tryd.func52, Tryd.ntmps52
        go_wp2_with fail
        exact hR.out _ hv.out _ (by go_grown)
      | false =>
        have he2 : ¬ s.toList = [] := fun e => by rw [e] at he; cases he
        have hv := Lib.hid (show conOk 99 ⟨2, s, n⟩ = false by simp [conOk, counted])
        clear HM
        go_enter Tryd.func52, Tryd.ntmps52
        go_wp2_with fail
        exact hR.out _ hv.out _ (by go_grown)
    have k2 : (k == 2) = false := by simpa using h2
    by_cases h4 : k = 4
    · subst h4
      have hv := Lib.hid (show conOk 99 ⟨4, s, n⟩ = false by simp [conOk, counted, hs])
      clear HM
      go_enter Tryd.func52, Tryd.ntmps52
      go_wp2_with fail
      exact hR.out _ hv.out _ (by go_grown)
    have k4 : (k == 4) = false := by simpa using h4
    have hv := Lib.hid (show conOk 99 ⟨k, s, n⟩ = false by simp [conOk, counted, h4])
    clear HM
    go_enter Tryd.func52, Tryd.ntmps52
    go_wp2_with fail
    exact hR.out _ hv.out _ (by go_grown)

set_option maxHeartbeats 1000000 in
set_option maxRecDepth 100000 in
theorem con_q (x : Cn) (w : World) (m : Int) (hm : w.cell? ⟨0, 0, none⟩ = some (.int .i64 m)) : Calls Tryd.prog 52 #[x.val, .int .u8 113] w (Ret (.bool (conOk 113 x)) w) := by
  have hR : Hid (∀ b, conOk 113 x = b → ∀ w', Gr w w' → Ret (.bool (conOk 113 x)) w (.returned (.bool b)) w') := fun b hb w' hg => ⟨by rw [hb], hg⟩
  generalize hQ : Ret (.bool (conOk 113 x)) w = Q at hR ⊢
  clear hQ
  obtain ⟨k, s, n⟩ := x
  simp only [Cn.val]
  have HM := Lib.hid hm
  clear hm
  by_cases hs : (s.size : Int) ≤ 100
  · by_cases h3 : k = 3
    · subst h3
      by_cases hn : n = 0
      · subst hn
        have hv := Lib.hid (show conOk 113 ⟨3, s, 0⟩ = false by simp [conOk, counted])
        clear HM
        go_enter Tryd.func52, Tryd.ntmps52
        go_wp2_with fail
        exact hR.out _ hv.out _ (by go_grown)
      · have hn2 : (n == 0) = false := by simpa using hn
        have hv := Lib.hid (show conOk 113 ⟨3, s, n⟩ = false by simp [conOk, counted])
        clear HM
        go_enter Tryd.func52, Tryd.ntmps52
        go_wp2_with fail
        exact hR.out _ hv.out _ (by go_grown)
    have k3 : (k == 3) = false := by simpa using h3
    by_cases h2 : k = 2
    · subst h2
      cases he : s.toList.isEmpty with
      | true =>
        have hv := Lib.hid (show conOk 113 ⟨2, s, n⟩ = false by simp [conOk, counted])
        clear HM
        go_enter Tryd.func52, Tryd.ntmps52
        go_wp2_with fail
        exact hR.out _ hv.out _ (by go_grown)
      | false =>
        have he2 : ¬ s.toList = [] := fun e => by rw [e] at he; cases he
        have hv := Lib.hid (show conOk 113 ⟨2, s, n⟩ = false by simp [conOk, counted])
        clear HM
        go_enter Tryd.func52, Tryd.ntmps52
        go_wp2_with fail
        exact hR.out _ hv.out _ (by go_grown)
    have k2 : (k == 2) = false := by simpa using h2
    by_cases h4 : k = 4
    · subst h4
      by_cases h0 : 0 ≤ n
      · by_cases h5 : n ≤ 50
        · skip
          have hv := Lib.hid (show conOk 113 ⟨4, s, n⟩ = true by simp [conOk, counted, hs, h0, h5])
          clear HM
          go_enter Tryd.func52, Tryd.ntmps52
          go_wp2_with fail
          exact hR.out _ hv.out _ (by go_grown)
        · skip
          have hv := Lib.hid (show conOk 113 ⟨4, s, n⟩ = false by simp [conOk, counted, h5])
          clear HM
          go_enter Tryd.func52, Tryd.ntmps52
          go_wp2_with fail
          exact hR.out _ hv.out _ (by go_grown)
      · have h0' : ¬ 1 ≤ n := by omega
        have hv := Lib.hid (show conOk 113 ⟨4, s, n⟩ = false by simp [conOk, counted, h0])
        clear HM
        go_enter Tryd.func52, Tryd.ntmps52
        go_wp2_with fail
        exact hR.out _ hv.out _ (by go_grown)
    have k4 : (k == 4) = false := by simpa using h4
    have hv := Lib.hid (show conOk 113 ⟨k, s, n⟩ = false by simp [conOk, counted, h4])
    clear HM
    go_enter Tryd.func52, Tryd.ntmps52
    go_wp2_with fail
    exact hR.out _ hv.out _ (by go_grown)
  · by_cases h3 : k = 3
    · subst h3
      by_cases hn : n = 0
      · subst hn
        have hv := Lib.hid (show conOk 113 ⟨3, s, 0⟩ = false by simp [conOk, counted])
        clear HM
        go_enter Tryd.func52, Tryd.ntmps52
        go_wp2_with fail
        exact hR.out _ hv.out _ (by go_grown)
      · have hn2 : (n == 0) = false := by simpa using hn
        have hv := Lib.hid (show conOk 113 ⟨3, s, n⟩ = false by simp [conOk, counted])
        clear HM
        go_enter Tryd.func52, Tryd.ntmps52
        go_wp2_with fail
        exact hR.out _ hv.out _ (by go_grown)
    have k3 : (k == 3) = false := by simpa using h3
    by_cases h2 : k = 2
    · subst h2
      cases he : s.toList.isEmpty with
      | true =>
        have hv := Lib.hid (show conOk 113 ⟨2, s, n⟩ = false by simp [conOk, counted])
        clear HM
        go_enter Tryd.func52, Tryd.ntmps52
        go_wp2_with fail
        exact hR.out _ hv.out _ (by go_grown)
      | false =>
        have he2 : ¬ s.toList = [] := fun e => by rw [e] at he; cases he
        have hv := Lib.hid (show conOk 113 ⟨2, s, n⟩ = false by simp [conOk, counted])
        clear HM
        go_enter Tryd.func52, Tryd.ntmps52
        go_wp2_with fail
        exact hR.out _ hv.out _ (by go_grown)
    have k2 : (k == 2) = false := by simpa using h2
    by_cases h4 : k = 4
    · subst h4
      have hv := Lib.hid (show conOk 113 ⟨4, s, n⟩ = false by simp [conOk, counted, hs])
      clear HM
      go_enter Tryd.func52, Tryd.ntmps52
      go_wp2_with fail
      exact hR.out _ hv.out _ (by go_grown)
    have k4 : (k == 4) = false := by simpa using h4
    have hv := Lib.hid (show conOk 113 ⟨k, s, n⟩ = false by simp [conOk, counted, h4])
    clear HM
    go_enter Tryd.func52, Tryd.ntmps52
    go_wp2_with fail
    exact hR.out _ hv.out _ (by go_grown)

set_option maxHeartbeats 1000000 in
set_option maxRecDepth 100000 in
theorem con_b (x : Cn) (w : World) (m : Int) (hm : w.cell? ⟨0, 0, none⟩ = some (.int .i64 m)) : Calls Tryd.prog 52 #[x.val, .int .u8 98] w (Ret (.bool (conOk 98 x)) w) := by
  have hR : Hid (∀ b, conOk 98 x = b → ∀ w', Gr w w' → Ret (.bool (conOk 98 x)) w (.returned (.bool b)) w') := fun b hb w' hg => ⟨by rw [hb], hg⟩
  generalize hQ : Ret (.bool (conOk 98 x)) w = Q at hR ⊢
  clear hQ
  obtain ⟨k, s, n⟩ := x
  simp only [Cn.val]
  have HM := Lib.hid hm
  clear hm
  by_cases hs : (s.size : Int) ≤ 100
  · by_cases h3 : k = 3
    · subst h3
      by_cases hn : n = 0
      · subst hn
        have hv := Lib.hid (show conOk 98 ⟨3, s, 0⟩ = false by simp [conOk, counted])
        clear HM
        go_enter Tryd.func52, Tryd.ntmps52
        go_wp2_with fail
        exact hR.out _ hv.out _ (by go_grown)
      · have hn2 : (n == 0) = false := by simpa using hn
        have hv := Lib.hid (show conOk 98 ⟨3, s, n⟩ = false by simp [conOk, counted])
        clear HM
        go_enter Tryd.func52, Tryd.ntmps52
        go_wp2_with fail
        exact hR.out _ hv.out _ (by go_grown)
    have k3 : (k == 3) = false := by simpa using h3
    by_cases h2 : k = 2
    · subst h2
      cases he : s.toList.isEmpty with
      | true =>
        have hv := Lib.hid (show conOk 98 ⟨2, s, n⟩ = false by simp [conOk, counted])
        clear HM
        go_enter Tryd.func52, Tryd.ntmps52
        go_wp2_with fail
        exact hR.out _ hv.out _ (by go_grown)
      | false =>
        have he2 : ¬ s.toList = [] := fun e => by rw [e] at he; cases he
        have hv := Lib.hid (show conOk 98 ⟨2, s, n⟩ = false by simp [conOk, counted])
        clear HM
        go_enter Tryd.func52, Tryd.ntmps52
        go_wp2_with fail
        exact hR.out _ hv.out _ (by go_grown)
    have k2 : (k == 2) = false := by simpa using h2
    by_cases h4 : k = 4
    · subst h4
      by_cases h0 : 0 ≤ n
      · by_cases h5 : n ≤ 50
        · skip
          have hv := Lib.hid (show conOk 98 ⟨4, s, n⟩ = allowed s.toList n by simp [conOk, counted, hs, h0, h5])
          skip
          go_enter Tryd.func52, Tryd.ntmps52
          go_wp2_with (first | (go_at_call 13; refine (rallowed_calls s n _ m (show _ = _ from Gr.at (by go_grown) HM.out)).mono ?_; rintro e w' ⟨rfl, hb⟩) | fail)
          exact hR.out _ hv.out _ (Gr.trans (by go_grown) hb)
        · skip
          have hv := Lib.hid (show conOk 98 ⟨4, s, n⟩ = false by simp [conOk, counted, h5])
          clear HM
          go_enter Tryd.func52, Tryd.ntmps52
          go_wp2_with fail
          exact hR.out _ hv.out _ (by go_grown)
      · have h0' : ¬ 1 ≤ n := by omega
        have hv := Lib.hid (show conOk 98 ⟨4, s, n⟩ = false by simp [conOk, counted, h0])
        clear HM
        go_enter Tryd.func52, Tryd.ntmps52
        go_wp2_with fail
        exact hR.out _ hv.out _ (by go_grown)
    have k4 : (k == 4) = false := by simpa using h4
    have hv := Lib.hid (show conOk 98 ⟨k, s, n⟩ = false by simp [conOk, counted, h4])
    clear HM
    go_enter Tryd.func52, Tryd.ntmps52
    go_wp2_with fail
    exact hR.out _ hv.out _ (by go_grown)
  · by_cases h3 : k = 3
    · subst h3
      by_cases hn : n = 0
      · subst hn
        have hv := Lib.hid (show conOk 98 ⟨3, s, 0⟩ = false by simp [conOk, counted])
        clear HM
        go_enter Tryd.func52, Tryd.ntmps52
        go_wp2_with fail
        exact hR.out _ hv.out _ (by go_grown)
      · have hn2 : (n == 0) = false := by simpa using hn
        have hv := Lib.hid (show conOk 98 ⟨3, s, n⟩ = false by simp [conOk, counted])
        clear HM
        go_enter Tryd.func52, Tryd.ntmps52
        go_wp2_with fail
        exact hR.out _ hv.out _ (by go_grown)
    have k3 : (k == 3) = false := by simpa using h3
    by_cases h2 : k = 2
    · subst h2
      cases he : s.toList.isEmpty with
      | true =>
        have hv := Lib.hid (show conOk 98 ⟨2, s, n⟩ = false by simp [conOk, counted])
        clear HM
        go_enter Tryd.func52, Tryd.ntmps52
        go_wp2_with fail
        exact hR.out _ hv.out _ (by go_grown)
      | false =>
        have he2 : ¬ s.toList = [] := fun e => by rw [e] at he; cases he
        have hv := Lib.hid (show conOk 98 ⟨2, s, n⟩ = false by simp [conOk, counted])
        clear HM
        go_enter Tryd.func52, Tryd.ntmps52
        go_wp2_with fail
        exact hR.out _ hv.out _ (by go_grown)
    have k2 : (k == 2) = false := by simpa using h2
    by_cases h4 : k = 4
    · subst h4
      have hv := Lib.hid (show conOk 98 ⟨4, s, n⟩ = false by simp [conOk, counted, hs])
      clear HM
      go_enter Tryd.func52, Tryd.ntmps52
      go_wp2_with fail
      exact hR.out _ hv.out _ (by go_grown)
    have k4 : (k == 4) = false := by simpa using h4
    have hv := Lib.hid (show conOk 98 ⟨k, s, n⟩ = false by simp [conOk, counted, h4])
    clear HM
    go_enter Tryd.func52, Tryd.ntmps52
    go_wp2_with fail
    exact hR.out _ hv.out _ (by go_grown)

set_option maxHeartbeats 1000000 in
set_option maxRecDepth 100000 in
theorem con_n (x : Cn) (w : World) (m : Int) (hm : w.cell? ⟨0, 0, none⟩ = some (.int .i64 m)) : Calls Tryd.prog 52 #[x.val, .int .u8 45] w (Ret (.bool (conOk 45 x)) w) := by
  have hR : Hid (∀ b, conOk 45 x = b → ∀ w', Gr w w' → Ret (.bool (conOk 45 x)) w (.returned (.bool b)) w') := fun b hb w' hg => ⟨by rw [hb], hg⟩
  generalize hQ : Ret (.bool (conOk 45 x)) w = Q at hR ⊢
  clear hQ
  obtain ⟨k, s, n⟩ := x
  simp only [Cn.val]
  have HM := Lib.hid hm
  clear hm
  by_cases hs : (s.size : Int) ≤ 100
  · by_cases h3 : k = 3
    · subst h3
      by_cases hn : n = 0
      · subst hn
        have hv := Lib.hid (show conOk 45 ⟨3, s, 0⟩ = false by simp [conOk])
        clear HM
        go_enter Tryd.func52, Tryd.ntmps52
        go_wp2_with fail
        exact hR.out _ hv.out _ (by go_grown)
      · have hn2 : (n == 0) = false := by simpa using hn
        have hv := Lib.hid (show conOk 45 ⟨3, s, n⟩ = false by simp [conOk])
        clear HM
        go_enter Tryd.func52, Tryd.ntmps52
        go_wp2_with fail
        exact hR.out _ hv.out _ (by go_grown)
    have k3 : (k == 3) = false := by simpa using h3
    by_cases h2 : k = 2
    · subst h2
      cases he : s.toList.isEmpty with
      | true =>
        have hv := Lib.hid (show conOk 45 ⟨2, s, n⟩ = false by simp [conOk])
        clear HM
        go_enter Tryd.func52, Tryd.ntmps52
        go_wp2_with fail
        exact hR.out _ hv.out _ (by go_grown)
      | false =>
        have he2 : ¬ s.toList = [] := fun e => by rw [e] at he; cases he
        have hv := Lib.hid (show conOk 45 ⟨2, s, n⟩ = false by simp [conOk])
        clear HM
        go_enter Tryd.func52, Tryd.ntmps52
        go_wp2_with fail
        exact hR.out _ hv.out _ (by go_grown)
    have k2 : (k == 2) = false := by simpa using h2
    by_cases h4 : k = 4
    · subst h4
      by_cases h0 : 0 ≤ n
      · by_cases h5 : n ≤ 50
        · skip
          have hv := Lib.hid (show conOk 45 ⟨4, s, n⟩ = false by simp [conOk])
          clear HM
          go_enter Tryd.func52, Tryd.ntmps52
          go_wp2_with fail
          exact hR.out _ hv.out _ (by go_grown)
        · skip
          have hv := Lib.hid (show conOk 45 ⟨4, s, n⟩ = false by simp [conOk])
          clear HM
          go_enter Tryd.func52, Tryd.ntmps52
          go_wp2_with fail
          exact hR.out _ hv.out _ (by go_grown)
      · have h0' : ¬ 1 ≤ n := by omega
        have hv := Lib.hid (show conOk 45 ⟨4, s, n⟩ = false by simp [conOk])
        clear HM
        go_enter Tryd.func52, Tryd.ntmps52
        go_wp2_with fail
        exact hR.out _ hv.out _ (by go_grown)
    have k4 : (k == 4) = false := by simpa using h4
    by_cases hk0 : k = 0
    · subst hk0
      cases he : s.toList.isEmpty with
      | true =>
        by_cases hn : n = 0
        · subst hn
          have hv := Lib.hid (show conOk 45 ⟨0, s, 0⟩ = true by simp [conOk, List.isEmpty_iff.1 he])
          clear HM
          go_enter Tryd.func52, Tryd.ntmps52
          go_wp2_with fail
          exact hR.out _ hv.out _ (by go_grown)
        · have hn2 : (n == 0) = false := by simpa using hn
          have hv := Lib.hid (show conOk 45 ⟨0, s, n⟩ = false by simp [conOk, hn])
          clear HM
          go_enter Tryd.func52, Tryd.ntmps52
          go_wp2_with fail
          exact hR.out _ hv.out _ (by go_grown)
      | false =>
        have he2 : ¬ s.toList = [] := fun e => by rw [e] at he; cases he
        have hv := Lib.hid (show conOk 45 ⟨0, s, n⟩ = false by simp [conOk, he2])
        clear HM
        go_enter Tryd.func52, Tryd.ntmps52
        go_wp2_with fail
        exact hR.out _ hv.out _ (by go_grown)
    · have hk00 : (k == 0) = false := by simpa using hk0
      have hv := Lib.hid (show conOk 45 ⟨k, s, n⟩ = false by simp [conOk, hk0])
      clear HM
      go_enter Tryd.func52, Tryd.ntmps52
      go_wp2_with fail
      exact hR.out _ hv.out _ (by go_grown)
  · by_cases h3 : k = 3
    · subst h3
      by_cases hn : n = 0
      · subst hn
        have hv := Lib.hid (show conOk 45 ⟨3, s, 0⟩ = false by simp [conOk])
        clear HM
        go_enter Tryd.func52, Tryd.ntmps52
        go_wp2_with fail
        exact hR.out _ hv.out _ (by go_grown)
      · have hn2 : (n == 0) = false := by simpa using hn
        have hv := Lib.hid (show conOk 45 ⟨3, s, n⟩ = false by simp [conOk])
        clear HM
        go_enter Tryd.func52, Tryd.ntmps52
        go_wp2_with fail
        exact hR.out _ hv.out _ (by go_grown)
    have k3 : (k == 3) = false := by simpa using h3
    by_cases h2 : k = 2
    · subst h2
      cases he : s.toList.isEmpty with
      | true =>
        have hv := Lib.hid (show conOk 45 ⟨2, s, n⟩ = false by simp [conOk])
        clear HM
        go_enter Tryd.func52, Tryd.ntmps52
        go_wp2_with fail
        exact hR.out _ hv.out _ (by go_grown)
      | false =>
        have he2 : ¬ s.toList = [] := fun e => by rw [e] at he; cases he
        have hv := Lib.hid (show conOk 45 ⟨2, s, n⟩ = false by simp [conOk])
        clear HM
        go_enter Tryd.func52, Tryd.ntmps52
        go_wp2_with fail
        exact hR.out _ hv.out _ (by go_grown)
    have k2 : (k == 2) = false := by simpa using h2
    by_cases h4 : k = 4
    · subst h4
      have hv := Lib.hid (show conOk 45 ⟨4, s, n⟩ = false by simp [conOk])
      clear HM
      go_enter Tryd.func52, Tryd.ntmps52
      go_wp2_with fail
      exact hR.out _ hv.out _ (by go_grown)
    have k4 : (k == 4) = false := by simpa using h4
    by_cases hk0 : k = 0
    · subst hk0
      cases he : s.toList.isEmpty with
      | true =>
        by_cases hn : n = 0
        · subst hn
          have hv := Lib.hid (show conOk 45 ⟨0, s, 0⟩ = true by simp [conOk, List.isEmpty_iff.1 he])
          clear HM
          go_enter Tryd.func52, Tryd.ntmps52
          go_wp2_with fail
          exact hR.out _ hv.out _ (by go_grown)
        · have hn2 : (n == 0) = false := by simpa using hn
          have hv := Lib.hid (show conOk 45 ⟨0, s, n⟩ = false by simp [conOk, hn])
          clear HM
          go_enter Tryd.func52, Tryd.ntmps52
          go_wp2_with fail
          exact hR.out _ hv.out _ (by go_grown)
      | false =>
        have he2 : ¬ s.toList = [] := fun e => by rw [e] at he; cases he
        have hv := Lib.hid (show conOk 45 ⟨0, s, n⟩ = false by simp [conOk, he2])
        clear HM
        go_enter Tryd.func52, Tryd.ntmps52
        go_wp2_with fail
        exact hR.out _ hv.out _ (by go_grown)
    · have hk00 : (k == 0) = false := by simpa using hk0
      have hv := Lib.hid (show conOk 45 ⟨k, s, n⟩ = false by simp [conOk, hk0])
      clear HM
      go_enter Tryd.func52, Tryd.ntmps52
      go_wp2_with fail
      exact hR.out _ hv.out _ (by go_grown)

theorem con_calls (x : Cn) (r : UInt8) (hr : r ∈ ([45, 107, 99, 113, 98] : List UInt8)) (w : World) (m : Int) (hm : w.cell? ⟨0, 0, none⟩ = some (.int .i64 m)) :
    Calls Tryd.prog 52 #[x.val, .int .u8 (r.toNat : Int)] w (Ret (.bool (conOk r x)) w) := by
  simp only [List.mem_cons, List.mem_nil_iff, or_false] at hr
  rcases hr with rfl | rfl | rfl | rfl | rfl
  · exact con_n x w m hm
  · exact con_k x w m hm
  · exact con_c x w m hm
  · exact con_q x w m hm
  · exact con_b x w m hm
end Go.Proofs.YtgaijgadeodoeaaDoor
