/-
  An instruction's fields, numbers and constants: machine.fields, formed$1, constant, counted
-/
import Derived.Test.YtgaijgadeodoeaaDoorU2
import Derived.Test.YtgaijgadeodoeaaDoorU5
namespace Go.Proofs.YtgaijgadeodoeaaDoor
open Go.RowKit

def rowB (op : Int) : ByteArray := ⟨(rowOf op).toArray⟩

theorem rowOf_shape (op : Int) : rowOf op = [] ∨ ∃ p q r, rowOf op = [p, q, r] ∧ p ∈ ([45, 97, 110, 112, 115] : List UInt8) ∧ q ∈ ([45, 97, 110, 112, 115] : List UInt8) ∧ r ∈ ([45, 107, 99, 113, 98] : List UInt8) := by
  by_cases h : 1 ≤ op ∧ op < 26
  · have hall : insRows.all (fun x => match x with
      | [] => true
      | [p, q, r] => ([45, 97, 110, 112, 115] : List UInt8).contains p && ([45, 97, 110, 112, 115] : List UInt8).contains q && ([45, 107, 99, 113, 98] : List UInt8).contains r
      | _ => false) = true := by decide
    have hlen : insRows.length = 26 := rfl
    have hx : op.toNat < insRows.length := by omega
    have h1 := List.all_eq_true.1 hall _ (List.getElem_mem hx)
    have e : rowOf op = insRows[op.toNat] := by rw [rowOf, if_pos h, List.getD, List.getElem?_eq_getElem hx]; rfl
    rw [e]
    generalize insRows[op.toNat] = row at h1
    match row, h1 with
    | [], _ => exact .inl rfl
    | [p, q, r], h1 =>
      simp only [Bool.and_eq_true, List.contains_iff_mem] at h1
      exact .inr ⟨p, q, r, rfl, h1.1.1, h1.1.2, h1.2⟩
  · exact .inl (by rw [rowOf, if_neg h])

theorem rowOf_out {op : Int} (h : ¬ (1 ≤ op ∧ op < 26)) : rowOf op = [] := by rw [rowOf, if_neg h]

set_option maxHeartbeats 1000000 in
set_option maxRecDepth 100000 in
theorem fields_calls (op : Int) (w : World) : Calls Tryd.prog 48 #[.int .i64 op] w fun e w' => e = .returned (.string (rowB op)) ∧ w' = w := by
  have hR : Hid (∀ b, rowB op = b → (Ending.returned (.string b) = .returned (.string (rowB op)) ∧ w = w)) := fun b hb => ⟨by rw [hb], rfl⟩
  generalize hQ : (fun (e : Ending) (w' : World) => e = .returned (.string (rowB op)) ∧ w' = w) = Q
  have hR2 : Hid (∀ b, rowB op = b → Q (.returned (.string b)) w) := fun b hb => by rw [← hQ]; exact hR.out b hb
  clear hQ hR
  go_enter Tryd.func48, Tryd.ntmps48
  try simp only [List.append_eq, List.cons_append, List.nil_append]
  by_cases h1 : op = 1
  · subst h1
    go_wp2_with fail
    exact hR2.out _ rfl
  by_cases h2 : op = 2
  · subst h2
    go_wp2_with fail
    exact hR2.out _ rfl
  by_cases h3 : op = 3
  · subst h3
    go_wp2_with fail
    exact hR2.out _ rfl
  by_cases h4 : op = 4
  · subst h4
    go_wp2_with fail
    exact hR2.out _ rfl
  by_cases h5 : op = 5
  · subst h5
    go_wp2_with fail
    exact hR2.out _ rfl
  by_cases h6 : op = 6
  · subst h6
    go_wp2_with fail
    exact hR2.out _ rfl
  by_cases h7 : op = 7
  · subst h7
    go_wp2_with fail
    exact hR2.out _ rfl
  by_cases h8 : op = 8
  · subst h8
    go_wp2_with fail
    exact hR2.out _ rfl
  by_cases h9 : op = 9
  · subst h9
    go_wp2_with fail
    exact hR2.out _ rfl
  by_cases h10 : op = 10
  · subst h10
    go_wp2_with fail
    exact hR2.out _ rfl
  by_cases h11 : op = 11
  · subst h11
    go_wp2_with fail
    exact hR2.out _ rfl
  by_cases h12 : op = 12
  · subst h12
    go_wp2_with fail
    exact hR2.out _ rfl
  by_cases h13 : op = 13
  · subst h13
    go_wp2_with fail
    exact hR2.out _ rfl
  by_cases h14 : op = 14
  · subst h14
    go_wp2_with fail
    exact hR2.out _ rfl
  by_cases h15 : op = 15
  · subst h15
    go_wp2_with fail
    exact hR2.out _ rfl
  by_cases h16 : op = 16
  · subst h16
    go_wp2_with fail
    exact hR2.out _ rfl
  by_cases h17 : op = 17
  · subst h17
    go_wp2_with fail
    exact hR2.out _ rfl
  by_cases h18 : op = 18
  · subst h18
    go_wp2_with fail
    exact hR2.out _ rfl
  by_cases h19 : op = 19
  · subst h19
    go_wp2_with fail
    exact hR2.out _ rfl
  by_cases h20 : op = 20
  · subst h20
    go_wp2_with fail
    exact hR2.out _ rfl
  by_cases h21 : op = 21
  · subst h21
    go_wp2_with fail
    exact hR2.out _ rfl
  by_cases h22 : op = 22
  · subst h22
    go_wp2_with fail
    exact hR2.out _ rfl
  by_cases h23 : op = 23
  · subst h23
    go_wp2_with fail
    exact hR2.out _ rfl
  by_cases h24 : op = 24
  · subst h24
    go_wp2_with fail
    exact hR2.out _ rfl
  by_cases h25 : op = 25
  · subst h25
    go_wp2_with fail
    exact hR2.out _ rfl
  have k1 : (op == 1) = false := by simpa using h1
  have k2 : (op == 2) = false := by simpa using h2
  have k3 : (op == 3) = false := by simpa using h3
  have k4 : (op == 4) = false := by simpa using h4
  have k5 : (op == 5) = false := by simpa using h5
  have k6 : (op == 6) = false := by simpa using h6
  have k7 : (op == 7) = false := by simpa using h7
  have k8 : (op == 8) = false := by simpa using h8
  have k9 : (op == 9) = false := by simpa using h9
  have k10 : (op == 10) = false := by simpa using h10
  have k11 : (op == 11) = false := by simpa using h11
  have k12 : (op == 12) = false := by simpa using h12
  have k13 : (op == 13) = false := by simpa using h13
  have k14 : (op == 14) = false := by simpa using h14
  have k15 : (op == 15) = false := by simpa using h15
  have k16 : (op == 16) = false := by simpa using h16
  have k17 : (op == 17) = false := by simpa using h17
  have k18 : (op == 18) = false := by simpa using h18
  have k19 : (op == 19) = false := by simpa using h19
  have k20 : (op == 20) = false := by simpa using h20
  have k21 : (op == 21) = false := by simpa using h21
  have k22 : (op == 22) = false := by simpa using h22
  have k23 : (op == 23) = false := by simpa using h23
  have k24 : (op == 24) = false := by simpa using h24
  have k25 : (op == 25) = false := by simpa using h25
  have hv := Lib.hid (show rowB op = ⟨#[]⟩ by rw [rowB, rowOf_out (by omega)])
  clear h1 h2 h3 h4 h5 h6 h7 h8 h9 h10 h11 h12 h13 h14 h15 h16 h17 h18 h19 h20 h21 h22 h23 h24 h25
  go_wp2_with fail
  exact hR2.out _ hv.out

set_option maxHeartbeats 1000000 in
set_option maxRecDepth 100000 in
theorem number_calls (c : UInt8) (n size : Int) (B : Nat) (w : World) (hc : c ∈ ([45, 97, 110, 112, 115] : List UInt8)) (hs : w.cell? ⟨B, 0, none⟩ = some (.int .i64 size)) :
    Calls Tryd.prog 49 #[.int .u8 (c.toNat : Int), .int .i64 n, .pointer (some ⟨B, 0, none⟩)] w fun e w' => e = .returned (.bool (numOk c n size)) ∧ w' = w := by
  generalize hQ : (fun (e : Ending) (w' : World) => e = .returned (.bool (numOk c n size)) ∧ w' = w) = Q
  have hR2 : Hid (∀ b, numOk c n size = b → Q (.returned (.bool b)) w) := fun b hb => by rw [← hQ, hb]; exact ⟨rfl, rfl⟩
  clear hQ
  go_enter Tryd.func49, Tryd.ntmps49
  try simp only [List.append_eq, List.cons_append, List.nil_append]
  simp only [List.mem_cons, List.mem_nil_iff, or_false] at hc
  rcases hc with rfl | rfl | rfl | rfl | rfl
  · have hv := Lib.hid (show numOk _ n size = (n == 0) from by rw [show numOk 45 n size = decide (n = 0) from rfl, Bool.eq_iff_iff]; simp)
    go_wp2_with fail
    exact hR2.out _ hv.out
  · by_cases hl : 0 ≤ n
    · have hv := Lib.hid (show numOk _ n size = decide (n < 50) from by rw [show numOk 97 n size = (decide (0 ≤ n) && decide (n < 50)) from rfl, decide_eq_true hl, Bool.true_and])
      go_wp2_with fail
      exact hR2.out _ hv.out
    · have hv := Lib.hid (show numOk _ n size = false from by rw [show numOk 97 n size = (decide (0 ≤ n) && decide (n < 50)) from rfl, decide_eq_false hl, Bool.false_and])
      go_wp2_with fail
      exact hR2.out _ hv.out
  · by_cases hl : 1 ≤ n
    · have hv := Lib.hid (show numOk _ n size = decide (n ≤ 50) from by rw [show numOk 110 n size = (decide (1 ≤ n) && decide (n ≤ 50)) from rfl, decide_eq_true hl, Bool.true_and])
      go_wp2_with fail
      exact hR2.out _ hv.out
    · have hv := Lib.hid (show numOk _ n size = false from by rw [show numOk 110 n size = (decide (1 ≤ n) && decide (n ≤ 50)) from rfl, decide_eq_false hl, Bool.false_and])
      go_wp2_with fail
      exact hR2.out _ hv.out
  · by_cases hl : 0 ≤ n
    · have hv := Lib.hid (show numOk _ n size = decide (n < size) from by rw [show numOk 112 n size = (decide (0 ≤ n) && decide (n < size)) from rfl, decide_eq_true hl, Bool.true_and])
      go_wp2_with fail
      exact hR2.out _ hv.out
    · have hv := Lib.hid (show numOk _ n size = false from by rw [show numOk 112 n size = (decide (0 ≤ n) && decide (n < size)) from rfl, decide_eq_false hl, Bool.false_and])
      go_wp2_with fail
      exact hR2.out _ hv.out
  · by_cases hl : 0 ≤ n
    · have hv := Lib.hid (show numOk _ n size = decide (n < 200) from by rw [show numOk 115 n size = (decide (0 ≤ n) && decide (n < 200)) from rfl, decide_eq_true hl, Bool.true_and])
      go_wp2_with fail
      exact hR2.out _ hv.out
    · have hv := Lib.hid (show numOk _ n size = false from by rw [show numOk 115 n size = (decide (0 ≤ n) && decide (n < 200)) from rfl, decide_eq_false hl, Bool.false_and])
      go_wp2_with fail
      exact hR2.out _ hv.out

theorem constant_3 {x : Cn} (h : (x.k == 3) = true) : constant x = (decide (x.n = 0) && decide ((x.s.size : Int) ≤ 100)) := by
  have := beq_iff_eq.1 h
  rw [constant, decide_eq_true this, decide_eq_false (show ¬ x.k = 2 by omega)]; simp
theorem constant_2 {x : Cn} (h : (x.k == 2) = true) : constant x = x.s.toList.isEmpty := by
  have := beq_iff_eq.1 h
  rw [constant, decide_eq_true this, decide_eq_false (show ¬ x.k = 3 by omega), Bool.eq_iff_iff]; simp
theorem constant_x {x : Cn} (h : (x.k == 3) = false) (h2 : (x.k == 2) = false) : constant x = false := by
  simp only [beq_eq_false_iff_ne] at h h2
  rw [constant, decide_eq_false h, decide_eq_false h2]; simp

set_option maxHeartbeats 1000000 in
set_option maxRecDepth 100000 in
theorem constant_calls (x : Cn) (w : World) : Calls Tryd.prog 50 #[x.val] w (Ret (.bool (constant x)) w) := by
  have hR : Hid (∀ b, constant x = b → ∀ w', Gr w w' → Ret (.bool (constant x)) w (.returned (.bool b)) w') := fun b hb w' hg => ⟨by rw [hb], hg⟩
  generalize hQ : Ret (.bool (constant x)) w = Q at hR ⊢
  clear hQ
  have h3 := constant_3 (x := x)
  have h2 := constant_2 (x := x)
  have hx := constant_x (x := x)
  have H3 := Lib.hid h3
  have H2 := Lib.hid h2
  have HX := Lib.hid hx
  clear h3 h2 hx
  generalize constant x = v at *
  obtain ⟨k, s, n⟩ := x
  simp only [Cn.val] at *
  go_enter Tryd.func50, Tryd.ntmps50
  cases h : (k == 3) with
  | true =>
    by_cases hn : n = 0
    · subst hn
      have hv := Lib.hid ((H3.out h).trans (by rw [decide_eq_true rfl, Bool.true_and]))
      go_wp2_with fail
      exact hR.out _ hv.out _ (by go_grown)
    · have hn2 : (n == 0) = false := by simpa using hn
      have hv := Lib.hid ((H3.out h).trans (by rw [decide_eq_false hn, Bool.false_and]))
      go_wp2_with fail
      exact hR.out _ hv.out _ (by go_grown)
  | false =>
    cases h2 : (k == 2) with
    | true =>
      have hv := Lib.hid (H2.out h2)
      go_wp2_with fail
      exact hR.out _ hv.out _ (by go_grown)
    | false =>
      have hv := Lib.hid (HX.out h h2)
      go_wp2_with fail
      exact hR.out _ hv.out _ (by go_grown)

set_option maxHeartbeats 1000000 in
set_option maxRecDepth 100000 in
theorem counted_calls (x : Cn) (least : Int) (w : World) : Calls Tryd.prog 51 #[x.val, .int .i64 least] w (Ret (.bool (counted x least)) w) := by
  have hR : Hid (∀ b, counted x least = b → ∀ w', Gr w w' → Ret (.bool (counted x least)) w (.returned (.bool b)) w') := fun b hb w' hg => ⟨by rw [hb], hg⟩
  generalize hQ : Ret (.bool (counted x least)) w = Q at hR ⊢
  clear hQ
  have hd : counted x least = (decide (x.k = 4) && decide ((x.s.size : Int) ≤ 100) && decide (least ≤ x.n) && decide (x.n ≤ 50)) := rfl
  have HD := Lib.hid hd
  clear hd
  generalize counted x least = v at *
  obtain ⟨k, s, n⟩ := x
  simp only [Cn.val] at *
  go_enter Tryd.func51, Tryd.ntmps51
  by_cases hk : k = 4
  · subst hk
    by_cases h1 : (s.size : Int) ≤ 100
    · by_cases h2 : least ≤ n
      · have hv := Lib.hid (HD.out.trans (show _ = decide (n ≤ 50) by rw [decide_eq_true rfl, decide_eq_true h1, decide_eq_true h2]; rfl))
        go_wp2_with fail
        exact hR.out _ hv.out _ (by go_grown)
      · have hv := Lib.hid (HD.out.trans (show _ = false by rw [decide_eq_false h2]; simp))
        go_wp2_with fail
        exact hR.out _ hv.out _ (by go_grown)
    · have hv := Lib.hid (HD.out.trans (show _ = false by rw [decide_eq_false h1]; simp))
      go_wp2_with fail
      exact hR.out _ hv.out _ (by go_grown)
  · have hk2 : (k == 4) = false := by simpa using hk
    have hv := Lib.hid (HD.out.trans (show _ = false by rw [decide_eq_false hk]; simp))
    go_wp2_with fail
    exact hR.out _ hv.out _ (by go_grown)
end Go.Proofs.YtgaijgadeodoeaaDoor
