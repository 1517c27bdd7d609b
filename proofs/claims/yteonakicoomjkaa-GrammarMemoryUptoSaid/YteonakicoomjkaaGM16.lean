/-
  slices.Concat and slices.Insert where a base has its first clause.
  slices.Grow and slices.Concat at lists of what a base holds.
  slices.Grow and slices.Concat at lists of terms.
-/
import Derived.Test.YteonakicoomjkaaGM15
namespace Go.Proofs.Yteonakicoomjkaa
open Go.RowKit Go.Maps Go.Lib

theorem row_form {w : World} {base size n : Nat} {e : TypeId} {v : Value} {xs : List Value} (h : w.ownsRow base e size v n xs) : ∃ q cp, v = .slice q n cp ∧ n ≤ cp := by
  rcases h.2 with ⟨rfl, rfl⟩ | ⟨g, cap, cur, rfl, _, _, h, _⟩
  · exact ⟨none, 0, rfl, Nat.le_refl _⟩
  · exact ⟨_, _, rfl, h⟩

/-- The i-th of the three lists. -/
def thirdOf (b : Nat) (i : Nat) : Value := if i = 1 then .slice (some ⟨b, 0, none⟩) 1 1 else .slice none 0 0
def upTo (i : Nat) : Nat := if i ≤ 1 then 0 else 1

set_option maxHeartbeats 1000000 in
set_option maxRecDepth 100000 in
theorem concat_calls (a b : Nat) (x : List Value) (w : World) (hx : x.length = 9) (h1 : ∀ u ∈ x, u.oneCell' = true) (hb : ∀ j u, x[j]? = some u → w.cell? ⟨b, j, none⟩ = some u)
    (c0 : w.cell? ⟨a, 0, none⟩ = some (.slice none 0 0)) (c1 : w.cell? ⟨a, 1, none⟩ = some (.slice (some ⟨b, 0, none⟩) 1 1)) (c2 : w.cell? ⟨a, 2, none⟩ = some (.slice none 0 0)) :
    Calls Try.prog 100 #[.slice (some ⟨a, 0, none⟩) 3 3] w fun e w' => ∃ v, e = .returned v ∧ w'.ownsRow w.heap.size 143 9 v 1 x ∧ Gr w w' := by
  have Hb := Lib.hid hb
  have H1 := Lib.hid h1
  have Hx := Lib.hid hx
  have hR : Hid (∀ v w', w'.ownsRow w.heap.size 143 9 v 1 x → Gr w w' → (fun (e : Ending) (w' : World) => ∃ v, e = .returned v ∧ w'.ownsRow w.heap.size 143 9 v 1 x ∧ Gr w w') (.returned v) w') := fun v w' h hg => ⟨v, rfl, h, hg⟩
  generalize hQ : (fun (e : Ending) (w' : World) => ∃ v, e = .returned v ∧ w'.ownsRow w.heap.size 143 9 v 1 x ∧ Gr w w') = Q at hR ⊢
  clear hQ hb h1 hx
  have Hc : Hid (∀ i, i < 3 → w.cell? ⟨a, i, none⟩ = some (thirdOf b i)) := fun i hi => by
    match i, hi with
    | 0, _ => exact c0
    | 1, _ => exact c1
    | 2, _ => exact c2
  clear c0 c1 c2
  go_enter Try.func100, Try.ntmps100
  try simp only [List.append_eq, List.cons_append, List.nil_append]
  go_wp2_with fail
  go_loopg [3, 11] 3 (fun n s i wr => ∃ j : Nat, j ≤ 3 ∧ n = 3 - j ∧ s = .int .i64 (upTo j : Nat) ∧ i = .int .i64 j ∧ w = wr)
  case atStart => exact ⟨0, by omega, rfl, rfl, rfl, rfl⟩
  case round =>
    obtain ⟨j, hj, rfl, rfl, rfl, rfl⟩ := hrel
    match j, hj with
    | 0, _ =>
      have cj := Hc.out 0 (by omega)
      simp only [thirdOf, upTo] at cj ⊢
      go_wp2_with fail
      go_roundg (3 - 1)
      case measure => omega
      case rel => exact ⟨1, by omega, rfl, rfl, rfl, rfl⟩
    | 1, _ =>
      have cj := Hc.out 1 (by omega)
      simp only [thirdOf, upTo] at cj ⊢
      go_wp2_with fail
      go_roundg (3 - 2)
      case measure => omega
      case rel => exact ⟨2, by omega, rfl, rfl, rfl, rfl⟩
    | 2, _ =>
      have cj := Hc.out 2 (by omega)
      simp only [thirdOf, upTo] at cj ⊢
      go_wp2_with fail
      go_roundg (3 - 3)
      case measure => omega
      case rel => exact ⟨3, by omega, rfl, rfl, rfl, rfl⟩
    | 3, _ =>
      go_wp2_with (first
        | (go_at_call 156; refine (grow_calls _).mono ?_; rintro e w2 ⟨v0, rfl, ho, hg⟩; have Ho := Lib.hid ho; have Hg := hg; clear ho hg)
        | fail)
      go_loopg [6, 27] 3 (fun n v i wr => ∃ (j : Nat) (u : Value), u = v ∧ j ≤ 3 ∧ n = 3 - j ∧ i = .int .i64 j ∧ Gr w wr ∧ Hid (wr.ownsRow w.heap.size 143 9 u (upTo j) (if j ≤ 1 then [] else x)))
      case atStart => exact ⟨0, _, rfl, by omega, rfl, rfl, Hg, Ho⟩
      case round =>
        obtain ⟨i0, hi, _, _, _⟩ := info_parts infoHeld
        obtain ⟨j, v, rfl, hj, rfl, rfl, gr, ho⟩ := hrel
        match j, hj with
        | 0, _ =>
          have cj := Gr.at gr (Hc.out 0 (by omega))
          simp only [thirdOf] at cj
          have ho' : wr.ownsRow w.heap.size 143 9 v 0 [] := ho.out
          obtain ⟨q, cp, rfl, hcp⟩ := row_form ho'
          have hr := run_append_empty (P := Try.prog) wr 140 140 143 i0 Try.underlying140 hi q _ cp none 0 hcp
          go_wp2_with (first
            | (refine wpList_append_run wr rfl _ _ _ _ rfl _ _ (by rfl) (by rfl) _ _ hr ?_)
            | fail)
          go_roundg (3 - 1)
          case measure => omega
          case rel => exact ⟨1, _, rfl, by omega, rfl, rfl, gr, Lib.hid ho'⟩
        | 1, _ =>
          have cj := Gr.at gr (Hc.out 1 (by omega))
          simp only [thirdOf] at cj
          have ho' : wr.ownsRow w.heap.size 143 9 v 0 [] := ho.out
          have hlt := ho'.lt
          go_wp2_with (first
            | (refine wpList_append_one rfl _ _ 140 143 rfl Try.underlying140 infoHeld rfl (by decide) w.heap.size v 0 [] b 1 x (by rfl) (by rfl) ho' gr.size Hx.out (fun j u hu => Gr.at gr (Hb.out j u hu)) H1.out (by decide) (by decide) ?_
               intro v' w' h2 h3 h4
               have gr' : Gr w w' := Below.trans gr (grownBy_below h3 gr.size fun k hk => (hlt k hk).1)
               have Ho2 := Lib.hid h2
               clear h2 h3 h4)
            | fail)
          go_roundg (3 - 2)
          case measure => omega
          case rel => exact ⟨2, _, rfl, by omega, rfl, rfl, gr', Ho2⟩
        | 2, _ =>
          have cj := Gr.at gr (Hc.out 2 (by omega))
          simp only [thirdOf] at cj
          have ho' : wr.ownsRow w.heap.size 143 9 v 1 x := ho.out
          obtain ⟨q, cp, rfl, hcp⟩ := row_form ho'
          have hr := run_append_empty (P := Try.prog) wr 140 140 143 i0 Try.underlying140 hi q _ cp none 0 hcp
          go_wp2_with (first
            | (refine wpList_append_run wr rfl _ _ _ _ rfl _ _ (by rfl) (by rfl) _ _ hr ?_)
            | fail)
          go_roundg (3 - 3)
          case measure => omega
          case rel => exact ⟨3, _, rfl, by omega, rfl, rfl, gr, Lib.hid ho'⟩
        | 3, _ =>
          have ho' : wr.ownsRow w.heap.size 143 9 v 1 x := ho.out
          go_wp2_with fail
          exact hR.out v wr ho' gr
end Go.Proofs.Yteonakicoomjkaa

namespace Go.Proofs.Yteonakicoomjkaa
open Go.RowKit Go.Lib

/-- A slice, and the cells that it holds. -/
structure Rw where
  p : Option Addr
  n : Nat
  c : Nat
  cs : List Value
def Rw.In (sz : Nat) (w : World) (r : Rw) : Prop := r.cs.length = r.n * sz ∧ (∀ u ∈ r.cs, u.oneCell' = true) ∧ (r.n = 0 ∨ ∃ b o, r.p = some ⟨b, o, none⟩ ∧ ∀ j u, r.cs[j]? = some u → w.cell? ⟨b, o + j, none⟩ = some u)
def sumN (rs : List Rw) : Nat := (rs.map Rw.n).sum
theorem sumN_take (rs : List Rw) (k : Nat) (h : k < rs.length) : sumN (rs.take (k + 1)) = sumN (rs.take k) + rs[k].n := by
  rw [sumN, sumN, List.take_succ_eq_append_getElem h, List.map_append, List.sum_append]
  simp
theorem sumN_le (rs : List Rw) (k : Nat) : sumN (rs.take k) ≤ sumN rs := by
  conv => rhs; rw [sumN, ← List.take_append_drop k rs, List.map_append, List.sum_append]
  exact Nat.le_add_right _ _
theorem flat_take (rs : List Rw) (k : Nat) (h : k < rs.length) : (rs.take (k + 1)).flatMap Rw.cs = (rs.take k).flatMap Rw.cs ++ rs[k].cs := by
  rw [List.take_succ_eq_append_getElem h, List.flatMap_append]
  simp

set_option maxHeartbeats 1000000 in
set_option maxRecDepth 100000 in
theorem growH_some (n : Nat) (hn : 0 < n) (hb : n * 120 ≤ 140737488351232) (w : World) : Calls Try.prog 156 #[.slice none 0 0, .int .i64 n] w fun e w' => ∃ v, e = .returned v ∧ w'.ownsRow w.heap.size 143 9 v 0 [] ∧ Gr w w' := by
  obtain ⟨i0, hi, hz0, hz1, hz2⟩ := info_parts infoHeld
  have hr := run_append_nil_zeros (P := Try.prog) w 140 3 140 143 i0 _ .i64 .i64 Try.underlying140 Try.underlying3 hi hz0 n hn (by rw [hz1]; decide) (by omega) (by rw [hz2]; omega)
  have hge : n ≤ grownCap w n 0 143 := grownCap_ge w n 0 _
  have hcm : grownCap w n 0 143 ≤ maxLen := grownCap_le_maxLen w n 0 _ (by simp only [maxLen]; omega)
  generalize grownCap w n 0 143 = C at *
  generalize hw1 : w.drew.alloc _ = w1 at hr
  have hown : w1.ownsRow w.heap.size 143 9 (.slice (some ⟨w.heap.size, 0, none⟩) 0 C) 0 [] := by
    rw [← hw1]
    refine ⟨by simp, .inr ⟨w.heap.size, C, _, rfl, Nat.le_refl _, heap_alloc_new w.drew _, Nat.zero_le _, hcm, ?_, by simp⟩⟩
    have h9 : (Value.cells (.agg #[.int .i64 0, .int .i64 0, .int .i64 0, .string ⟨#[]⟩, .slice none 0 0, .int .i64 0, .int .i64 0, .string ⟨#[]⟩, .slice none 0 0])).size = 9 := rfl
    rw [Array.size_append, size_zeroCells, size_zeroCells, h9]
    omega
  have hgr : Gr w w1 := by rw [← hw1]; go_grown
  clear hw1
  have Hr := Lib.hid hr
  generalize hQ : (fun (e : Ending) (w' : World) => ∃ v, e = .returned v ∧ w'.ownsRow w.heap.size 143 9 v 0 [] ∧ Gr w w') = Q
  have hR : Hid (∀ v, w1.ownsRow w.heap.size 143 9 v 0 [] → Q (.returned v) w1) := fun v h => by rw [← hQ]; exact ⟨v, rfl, h, hgr⟩
  have Ho := Lib.hid hown
  have hw0 : IntKind.i64.wrap (n : Int) = n := IntWalk.i64_in _ (by omega)
  have hne : ¬ ((n : Int) < 0) := by omega
  have hpo : (0 : Int) < n := by omega
  clear hQ hr hown hgr hi hz0 hz1 hz2 hge hcm i0
  go_enter Try.func156, Try.ntmps156
  go_wp2_with (first
    | (refine wpList_append_run w rfl _ _ _ _ rfl _ _ (by rfl) (by rfl) _ _ Hr.out ?_)
    | fail)
  exact hR.out _ Ho.out

set_option maxRecDepth 100000 in
theorem growH_calls (n : Nat) (hb : n * 120 ≤ 140737488351232) (w : World) : Calls Try.prog 156 #[.slice none 0 0, .int .i64 n] w fun e w' => ∃ v, e = .returned v ∧ w'.ownsRow w.heap.size 143 9 v 0 [] ∧ Gr w w' := by
  by_cases hn : 0 < n
  · exact growH_some n hn hb w
  · obtain rfl : n = 0 := by omega
    generalize hQ : (fun (e : Ending) (w' : World) => ∃ v, e = .returned v ∧ w'.ownsRow w.heap.size 143 9 v 0 [] ∧ Gr w w') = Q
    have hR : Hid (∀ w1, Gr w w1 → Q (.returned (.slice none 0 0)) w1) := fun w1 h => by rw [← hQ]; exact ⟨_, rfl, World.ownsRow_nil _ _ _ _, h⟩
    clear hQ
    go_enter Try.func156, Try.ntmps156
    go_wp2_with fail
    exact hR.out _ (by go_grown)

set_option maxHeartbeats 2000000 in
set_option maxRecDepth 100000 in
theorem concatH_calls (a : Nat) (rs : List Rw) (w : World) (hrs : ∀ r ∈ rs, r.In 9 w) (hc : ∀ i r, rs[i]? = some r → w.cell? ⟨a, i, none⟩ = some (.slice r.p r.n r.c)) (hsum : sumN rs * 120 ≤ 140737488351232) (hk : rs.length ≤ 1000) :
    Calls Try.prog 100 #[.slice (some ⟨a, 0, none⟩) rs.length rs.length] w fun e w' => ∃ v, e = .returned v ∧ w'.ownsRow w.heap.size 143 9 v (sumN rs) (rs.flatMap Rw.cs) ∧ Gr w w' := by
  generalize hQ : (fun (e : Ending) (w' : World) => ∃ v, e = .returned v ∧ w'.ownsRow w.heap.size 143 9 v (sumN rs) (rs.flatMap Rw.cs) ∧ Gr w w') = Q
  have hR : Hid (∀ v w', w'.ownsRow w.heap.size 143 9 v (sumN rs) (rs.flatMap Rw.cs) → Gr w w' → Q (.returned v) w') := fun v w' h hg => by rw [← hQ]; exact ⟨v, rfl, h, hg⟩
  clear hQ
  have Hrs := Lib.hid hrs
  have Hc := Lib.hid hc
  have Hsum := Lib.hid hsum
  clear hrs hc
  go_enter Try.func100, Try.ntmps100
  try simp only [List.append_eq, List.cons_append, List.nil_append]
  go_wp2_with fail
  go_loopg [3, 11] rs.length (fun m s i wr => ∃ k : Nat, k ≤ rs.length ∧ m = rs.length - k ∧ s = .int .i64 (sumN (rs.take k) : Nat) ∧ i = .int .i64 k ∧ w = wr)
  case atStart => exact ⟨0, Nat.zero_le _, rfl, rfl, rfl, rfl⟩
  case round =>
    obtain ⟨k, hkl, rfl, rfl, rfl, rfl⟩ := hrel
    by_cases hlt : k < rs.length
    · have cj := Hc.out k rs[k] (List.getElem?_eq_getElem hlt)
      have hst := sumN_take rs k hlt
      have hle : sumN (rs.take (k + 1)) ≤ sumN rs := sumN_le rs (k + 1)
      have hs64 := Hsum.out
      generalize sumN (rs.take k) = S0 at *
      generalize hS1 : sumN (rs.take (k + 1)) = S1 at *
      generalize rs[k] = r at *
      have hw1 : IntKind.i64.wrap ((S0 : Int) + (r.n : Int)) = (S1 : Nat) := by rw [IntWalk.i64_in _ (by omega)]; omega
      have hne : ¬ (((S1 : Nat) : Int) < 0) := by omega
      clear hst hle hs64
      go_wp2_with fail
      go_roundg (rs.length - (k + 1))
      case measure => omega
      case rel => exact ⟨k + 1, by omega, rfl, by rw [hS1], by go_num, rfl⟩
    · obtain rfl : k = rs.length := by omega
      have hta : sumN (rs.take rs.length) = sumN rs := by rw [List.take_length]
      rw [hta]
      have Hgr := Lib.hid (growH_calls (sumN rs) hsum w)
      clear hta
      go_wp2_with (first
        | (go_at_call 156; refine Hgr.out.mono ?_; rintro e w2 ⟨v0, rfl, ho, hg⟩; have Ho := Lib.hid ho; have Hg := hg; clear ho hg)
        | fail)
      go_loopg [6, 27] rs.length (fun n v i wr => ∃ (j : Nat) (u : Value), u = v ∧ j ≤ rs.length ∧ n = rs.length - j ∧ i = .int .i64 j ∧ Gr w wr ∧ Hid (wr.ownsRow w.heap.size 143 9 u (sumN (rs.take j)) ((rs.take j).flatMap Rw.cs)))
      case atStart => exact ⟨0, _, rfl, Nat.zero_le _, rfl, rfl, Hg, Ho⟩
      case round =>
        obtain ⟨i0, hi, hz0, hz1, hz2⟩ := info_parts infoHeld
        obtain ⟨j, v, rfl, hj, rfl, rfl, gr, ho⟩ := hrel
        by_cases hlt : j < rs.length
        · have cj := Gr.at gr (Hc.out j rs[j] (List.getElem?_eq_getElem hlt))
          have hin := Hrs.out rs[j] (List.getElem_mem hlt)
          have hst := sumN_take rs j hlt
          have hfl := flat_take rs j hlt
          have hle : sumN (rs.take (j + 1)) ≤ sumN rs := sumN_le rs (j + 1)
          have hs64 := Hsum.out
          generalize hS0 : sumN (rs.take j) = S0 at *
          generalize hS1 : sumN (rs.take (j + 1)) = S1 at *
          generalize hF0 : (rs.take j).flatMap Rw.cs = F0 at *
          generalize rs[j] = r at *
          obtain ⟨p, n, c, cs⟩ := r
          simp only at cj hst hfl hin
          have ho' := ho.out
          by_cases h0 : n = 0
          · subst h0
            have hcs0 : cs = [] := List.eq_nil_of_length_eq_zero (by have := hin.1; simpa using this)
            obtain ⟨q, cp, rfl, hcp⟩ := row_form ho'
            have hr := run_append_empty (P := Try.prog) wr 140 140 143 i0 Try.underlying140 hi q _ cp p c hcp
            have Hr := Lib.hid hr
            have hnx : Hid (wr.ownsRow w.heap.size 143 9 (.slice q S0 cp) S1 ((rs.take (j + 1)).flatMap Rw.cs)) := by
              show World.ownsRow _ _ _ _ _ _ _
              rw [hfl, hcs0, List.append_nil, hst]
              exact ho'
            clear hr ho' hst hfl hle hs64 hin hcs0 hi hz0 hz1 hz2
            go_wp2_with (first
              | (refine wpList_append_run wr rfl _ _ _ _ rfl _ _ (by rfl) (by rfl) _ _ Hr.out ?_)
              | fail)
            go_roundg (rs.length - (j + 1))
            case measure => omega
            case rel => exact ⟨j + 1, _, rfl, by omega, rfl, by go_num, gr, by rw [hS1]; exact hnx⟩
          · obtain ⟨hcl, hone, h0' | ⟨b, o, hp, hcells⟩⟩ := hin
            · exact absurd h0' h0
            · simp only at hp hcl hone hcells
              subst hp
              obtain ⟨v', w', hr, h2, h3, h4⟩ := run_append_own_fresh (P := Try.prog) wr w.heap.size 140 140 143 i0 _ 9 120 Try.underlying140 hi hz0 hz1 hz2 rfl (by decide) v S0 F0 ho'
                ⟨b, o, none⟩ n c cs hcl (fun j u hu => by rw [Go.WideShapes.add_plain]; exact Gr.at gr (hcells j u hu)) hone (by simp only [maxLen]; omega) (by omega) gr.size (by omega)
              have Hr := Lib.hid hr
              have hlt' := ho'.lt
              have gr' : Gr w w' := Below.trans gr (grownBy_below h3 gr.size fun k hk => (hlt' k hk).1)
              have hnx : Hid (w'.ownsRow w.heap.size 143 9 v' S1 ((rs.take (j + 1)).flatMap Rw.cs)) := by
                show World.ownsRow _ _ _ _ _ _ _
                rw [hfl, hst]
                exact h2
              clear hr h2 h3 h4 ho' hst hfl hle hs64 hcl hone hcells hi hz0 hz1 hz2 hlt'
              go_wp2_with (first
                | (refine wpList_append_run wr rfl _ _ _ _ rfl _ _ (by rfl) (by rfl) _ _ Hr.out ?_)
                | fail)
              go_roundg (rs.length - (j + 1))
              case measure => omega
              case rel => exact ⟨j + 1, _, rfl, by omega, rfl, by go_num, gr', by rw [hS1]; exact hnx⟩
        · obtain rfl : j = rs.length := by omega
          have ho' : Hid (wr.ownsRow w.heap.size 143 9 v (sumN rs) (rs.flatMap Rw.cs)) := by
            have h := ho.out
            rw [List.take_length] at h
            exact h
          go_wp2_with fail
          exact hR.out v _ ho'.out gr
end Go.Proofs.Yteonakicoomjkaa

namespace Go.Proofs.Yteonakicoomjkaa
open Go.RowKit Go.Lib

set_option maxHeartbeats 1000000 in
set_option maxRecDepth 100000 in
theorem growT_some (n : Nat) (hn : 0 < n) (hb : n * 56 ≤ 140737488351232) (w : World) : Calls Try.prog 198 #[.slice none 0 0, .int .i64 n] w fun e w' => ∃ v, e = .returned v ∧ w'.ownsRow w.heap.size 24 4 v 0 [] ∧ Gr w w' := by
  obtain ⟨i0, hi, hz0, hz1, hz2⟩ := info_parts infoTermM
  have hr := run_append_nil_zeros (P := Try.prog) w 22 3 22 24 i0 _ .i64 .i64 Try.underlying22 Try.underlying3 hi hz0 n hn (by rw [hz1]; decide) (by omega) (by rw [hz2]; omega)
  have hge : n ≤ grownCap w n 0 24 := grownCap_ge w n 0 _
  have hcm : grownCap w n 0 24 ≤ maxLen := grownCap_le_maxLen w n 0 _ (by simp only [maxLen]; omega)
  generalize grownCap w n 0 24 = C at *
  generalize hw1 : w.drew.alloc _ = w1 at hr
  have hown : w1.ownsRow w.heap.size 24 4 (.slice (some ⟨w.heap.size, 0, none⟩) 0 C) 0 [] := by
    rw [← hw1]
    refine ⟨by simp, .inr ⟨w.heap.size, C, _, rfl, Nat.le_refl _, heap_alloc_new w.drew _, Nat.zero_le _, hcm, ?_, by simp⟩⟩
    have h9 : (Value.cells (.agg #[.int .i64 0, .int .i64 0, .string ⟨#[]⟩, .slice none 0 0])).size = 4 := rfl
    rw [Array.size_append, size_zeroCells, size_zeroCells, h9]
    omega
  have hgr : Gr w w1 := by rw [← hw1]; go_grown
  clear hw1
  have Hr := Lib.hid hr
  generalize hQ : (fun (e : Ending) (w' : World) => ∃ v, e = .returned v ∧ w'.ownsRow w.heap.size 24 4 v 0 [] ∧ Gr w w') = Q
  have hR : Hid (∀ v, w1.ownsRow w.heap.size 24 4 v 0 [] → Q (.returned v) w1) := fun v h => by rw [← hQ]; exact ⟨v, rfl, h, hgr⟩
  have Ho := Lib.hid hown
  have hw0 : IntKind.i64.wrap (n : Int) = n := IntWalk.i64_in _ (by omega)
  have hne : ¬ ((n : Int) < 0) := by omega
  have hpo : (0 : Int) < n := by omega
  clear hQ hr hown hgr hi hz0 hz1 hz2 hge hcm i0
  go_enter Try.func198, Try.ntmps198
  go_wp2_with (first
    | (refine wpList_append_run w rfl _ _ _ _ rfl _ _ (by rfl) (by rfl) _ _ Hr.out ?_)
    | fail)
  exact hR.out _ Ho.out

set_option maxRecDepth 100000 in
theorem growT_calls (n : Nat) (hb : n * 56 ≤ 140737488351232) (w : World) : Calls Try.prog 198 #[.slice none 0 0, .int .i64 n] w fun e w' => ∃ v, e = .returned v ∧ w'.ownsRow w.heap.size 24 4 v 0 [] ∧ Gr w w' := by
  by_cases hn : 0 < n
  · exact growT_some n hn hb w
  · obtain rfl : n = 0 := by omega
    generalize hQ : (fun (e : Ending) (w' : World) => ∃ v, e = .returned v ∧ w'.ownsRow w.heap.size 24 4 v 0 [] ∧ Gr w w') = Q
    have hR : Hid (∀ w1, Gr w w1 → Q (.returned (.slice none 0 0)) w1) := fun w1 h => by rw [← hQ]; exact ⟨_, rfl, World.ownsRow_nil _ _ _ _, h⟩
    clear hQ
    go_enter Try.func198, Try.ntmps198
    go_wp2_with fail
    exact hR.out _ (by go_grown)

set_option maxHeartbeats 2000000 in
set_option maxRecDepth 100000 in
theorem concatT_calls (a : Nat) (rs : List Rw) (w : World) (hrs : ∀ r ∈ rs, r.In 4 w) (hc : ∀ i r, rs[i]? = some r → w.cell? ⟨a, i, none⟩ = some (.slice r.p r.n r.c)) (hsum : sumN rs * 56 ≤ 140737488351232) (hk : rs.length ≤ 1000) :
    Calls Try.prog 144 #[.slice (some ⟨a, 0, none⟩) rs.length rs.length] w fun e w' => ∃ v, e = .returned v ∧ w'.ownsRow w.heap.size 24 4 v (sumN rs) (rs.flatMap Rw.cs) ∧ Gr w w' := by
  generalize hQ : (fun (e : Ending) (w' : World) => ∃ v, e = .returned v ∧ w'.ownsRow w.heap.size 24 4 v (sumN rs) (rs.flatMap Rw.cs) ∧ Gr w w') = Q
  have hR : Hid (∀ v w', w'.ownsRow w.heap.size 24 4 v (sumN rs) (rs.flatMap Rw.cs) → Gr w w' → Q (.returned v) w') := fun v w' h hg => by rw [← hQ]; exact ⟨v, rfl, h, hg⟩
  clear hQ
  have Hrs := Lib.hid hrs
  have Hc := Lib.hid hc
  have Hsum := Lib.hid hsum
  clear hrs hc
  go_enter Try.func144, Try.ntmps144
  try simp only [List.append_eq, List.cons_append, List.nil_append]
  go_wp2_with fail
  go_loopg [3, 11] rs.length (fun m s i wr => ∃ k : Nat, k ≤ rs.length ∧ m = rs.length - k ∧ s = .int .i64 (sumN (rs.take k) : Nat) ∧ i = .int .i64 k ∧ w = wr)
  case atStart => exact ⟨0, Nat.zero_le _, rfl, rfl, rfl, rfl⟩
  case round =>
    obtain ⟨k, hkl, rfl, rfl, rfl, rfl⟩ := hrel
    by_cases hlt : k < rs.length
    · have cj := Hc.out k rs[k] (List.getElem?_eq_getElem hlt)
      have hst := sumN_take rs k hlt
      have hle : sumN (rs.take (k + 1)) ≤ sumN rs := sumN_le rs (k + 1)
      have hs64 := Hsum.out
      generalize sumN (rs.take k) = S0 at *
      generalize hS1 : sumN (rs.take (k + 1)) = S1 at *
      generalize rs[k] = r at *
      have hw1 : IntKind.i64.wrap ((S0 : Int) + (r.n : Int)) = (S1 : Nat) := by rw [IntWalk.i64_in _ (by omega)]; omega
      have hne : ¬ (((S1 : Nat) : Int) < 0) := by omega
      clear hst hle hs64
      go_wp2_with fail
      go_roundg (rs.length - (k + 1))
      case measure => omega
      case rel => exact ⟨k + 1, by omega, rfl, by rw [hS1], by go_num, rfl⟩
    · obtain rfl : k = rs.length := by omega
      have hta : sumN (rs.take rs.length) = sumN rs := by rw [List.take_length]
      rw [hta]
      have Hgr := Lib.hid (growT_calls (sumN rs) hsum w)
      clear hta
      go_wp2_with (first
        | (go_at_call 198; refine Hgr.out.mono ?_; rintro e w2 ⟨v0, rfl, ho, hg⟩; have Ho := Lib.hid ho; have Hg := hg; clear ho hg)
        | fail)
      go_loopg [6, 27] rs.length (fun n v i wr => ∃ (j : Nat) (u : Value), u = v ∧ j ≤ rs.length ∧ n = rs.length - j ∧ i = .int .i64 j ∧ Gr w wr ∧ Hid (wr.ownsRow w.heap.size 24 4 u (sumN (rs.take j)) ((rs.take j).flatMap Rw.cs)))
      case atStart => exact ⟨0, _, rfl, Nat.zero_le _, rfl, rfl, Hg, Ho⟩
      case round =>
        obtain ⟨i0, hi, hz0, hz1, hz2⟩ := info_parts infoTermM
        obtain ⟨j, v, rfl, hj, rfl, rfl, gr, ho⟩ := hrel
        by_cases hlt : j < rs.length
        · have cj := Gr.at gr (Hc.out j rs[j] (List.getElem?_eq_getElem hlt))
          have hin := Hrs.out rs[j] (List.getElem_mem hlt)
          have hst := sumN_take rs j hlt
          have hfl := flat_take rs j hlt
          have hle : sumN (rs.take (j + 1)) ≤ sumN rs := sumN_le rs (j + 1)
          have hs64 := Hsum.out
          generalize hS0 : sumN (rs.take j) = S0 at *
          generalize hS1 : sumN (rs.take (j + 1)) = S1 at *
          generalize hF0 : (rs.take j).flatMap Rw.cs = F0 at *
          generalize rs[j] = r at *
          obtain ⟨p, n, c, cs⟩ := r
          simp only at cj hst hfl hin
          have ho' := ho.out
          by_cases h0 : n = 0
          · subst h0
            have hcs0 : cs = [] := List.eq_nil_of_length_eq_zero (by have := hin.1; simpa using this)
            obtain ⟨q, cp, rfl, hcp⟩ := row_form ho'
            have hr := run_append_empty (P := Try.prog) wr 22 22 24 i0 Try.underlying22 hi q _ cp p c hcp
            have Hr := Lib.hid hr
            have hnx : Hid (wr.ownsRow w.heap.size 24 4 (.slice q S0 cp) S1 ((rs.take (j + 1)).flatMap Rw.cs)) := by
              show World.ownsRow _ _ _ _ _ _ _
              rw [hfl, hcs0, List.append_nil, hst]
              exact ho'
            clear hr ho' hst hfl hle hs64 hin hcs0 hi hz0 hz1 hz2
            go_wp2_with (first
              | (refine wpList_append_run wr rfl _ _ _ _ rfl _ _ (by rfl) (by rfl) _ _ Hr.out ?_)
              | fail)
            go_roundg (rs.length - (j + 1))
            case measure => omega
            case rel => exact ⟨j + 1, _, rfl, by omega, rfl, by go_num, gr, by rw [hS1]; exact hnx⟩
          · obtain ⟨hcl, hone, h0' | ⟨b, o, hp, hcells⟩⟩ := hin
            · exact absurd h0' h0
            · simp only at hp hcl hone hcells
              subst hp
              obtain ⟨v', w', hr, h2, h3, h4⟩ := run_append_own_fresh (P := Try.prog) wr w.heap.size 22 22 24 i0 _ 4 56 Try.underlying22 hi hz0 hz1 hz2 rfl (by decide) v S0 F0 ho'
                ⟨b, o, none⟩ n c cs hcl (fun j u hu => by rw [Go.WideShapes.add_plain]; exact Gr.at gr (hcells j u hu)) hone (by simp only [maxLen]; omega) (by omega) gr.size (by omega)
              have Hr := Lib.hid hr
              have hlt' := ho'.lt
              have gr' : Gr w w' := Below.trans gr (grownBy_below h3 gr.size fun k hk => (hlt' k hk).1)
              have hnx : Hid (w'.ownsRow w.heap.size 24 4 v' S1 ((rs.take (j + 1)).flatMap Rw.cs)) := by
                show World.ownsRow _ _ _ _ _ _ _
                rw [hfl, hst]
                exact h2
              clear hr h2 h3 h4 ho' hst hfl hle hs64 hcl hone hcells hi hz0 hz1 hz2 hlt'
              go_wp2_with (first
                | (refine wpList_append_run wr rfl _ _ _ _ rfl _ _ (by rfl) (by rfl) _ _ Hr.out ?_)
                | fail)
              go_roundg (rs.length - (j + 1))
              case measure => omega
              case rel => exact ⟨j + 1, _, rfl, by omega, rfl, by go_num, gr', by rw [hS1]; exact hnx⟩
        · obtain rfl : j = rs.length := by omega
          have ho' : Hid (wr.ownsRow w.heap.size 24 4 v (sumN rs) (rs.flatMap Rw.cs)) := by
            have h := ho.out
            rw [List.take_length] at h
            exact h
          go_wp2_with fail
          exact hR.out v _ ho'.out gr
end Go.Proofs.Yteonakicoomjkaa
