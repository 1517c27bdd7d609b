/-
  slices.Concat and slices.Insert where a base has its first clause.
-/
import Derived.Test.YtgaijgadeodoeaaW4
namespace Go.Proofs.Ytgaijgadeodoeaa
open Go.RowKit Go.Maps Go.Lib

theorem row_form {w : World} {base size n : Nat} {e : TypeId} {v : Value} {xs : List Value} (h : w.ownsRow base e size v n xs) : ∃ q cp, v = .slice q n cp ∧ n ≤ cp := by
  rcases h.2 with ⟨rfl, rfl⟩ | ⟨g, cap, cur, rfl, _, _, h, _⟩
  · exact ⟨none, 0, rfl, Nat.le_refl _⟩
  · exact ⟨_, _, rfl, h⟩

/-- The i-th of the three lists. -/
def thirdOf (b : Nat) (i : Nat) : Value := if i = 1 then .slice (some ⟨b, 0, none⟩) 1 1 else .slice none 0 0
def upTo (i : Nat) : Nat := if i ≤ 1 then 0 else 1

set_option maxHeartbeats 1000000 in
set_option maxRecDepth 100000 in
theorem concat_calls (a b : Nat) (x : List Value) (w : World) (hx : x.length = 9) (h1 : ∀ u ∈ x, u.oneCell' = true) (hb : ∀ j u, x[j]? = some u → w.cell? ⟨b, j, none⟩ = some u)
    (c0 : w.cell? ⟨a, 0, none⟩ = some (.slice none 0 0)) (c1 : w.cell? ⟨a, 1, none⟩ = some (.slice (some ⟨b, 0, none⟩) 1 1)) (c2 : w.cell? ⟨a, 2, none⟩ = some (.slice none 0 0)) :
    Calls Try.prog 88 #[.slice (some ⟨a, 0, none⟩) 3 3] w fun e w' => ∃ v, e = .returned v ∧ w'.ownsRow w.heap.size 114 9 v 1 x ∧ Gr w w' := by
  have Hb := Lib.hid hb
  have H1 := Lib.hid h1
  have Hx := Lib.hid hx
  have hR : Hid (∀ v w', w'.ownsRow w.heap.size 114 9 v 1 x → Gr w w' → (fun (e : Ending) (w' : World) => ∃ v, e = .returned v ∧ w'.ownsRow w.heap.size 114 9 v 1 x ∧ Gr w w') (.returned v) w') := fun v w' h hg => ⟨v, rfl, h, hg⟩
  generalize hQ : (fun (e : Ending) (w' : World) => ∃ v, e = .returned v ∧ w'.ownsRow w.heap.size 114 9 v 1 x ∧ Gr w w') = Q at hR ⊢
  clear hQ hb h1 hx
  have Hc : Hid (∀ i, i < 3 → w.cell? ⟨a, i, none⟩ = some (thirdOf b i)) := fun i hi => by
    match i, hi with
    | 0, _ => exact c0
    | 1, _ => exact c1
    | 2, _ => exact c2
  clear c0 c1 c2
  go_enter Try.func88, Try.ntmps88
  try simp only [List.append_eq, List.cons_append, List.nil_append]
  go_wp2_with fail
  go_loopg [3, 11] 3 (fun n s i wr => ∃ j : Nat, j ≤ 3 ∧ n = 3 - j ∧ s = .int .i64 (upTo j : Nat) ∧ i = .int .i64 j ∧ w = wr)
  case atStart => exact ⟨0, by omega, rfl, rfl, rfl, rfl⟩
  case round =>
    obtain ⟨j, hj, rfl, rfl, rfl, rfl⟩ := hrel
    match j, hj with
    | 0, _ =>
      have cj := Hc.out 0 (by omega)
      simp only [thirdOf, upTo] at cj ⊢
      go_wp2_with fail
      go_roundg (3 - 1)
      case measure => omega
      case rel => exact ⟨1, by omega, rfl, rfl, rfl, rfl⟩
    | 1, _ =>
      have cj := Hc.out 1 (by omega)
      simp only [thirdOf, upTo] at cj ⊢
      go_wp2_with fail
      go_roundg (3 - 2)
      case measure => omega
      case rel => exact ⟨2, by omega, rfl, rfl, rfl, rfl⟩
    | 2, _ =>
      have cj := Hc.out 2 (by omega)
      simp only [thirdOf, upTo] at cj ⊢
      go_wp2_with fail
      go_roundg (3 - 3)
      case measure => omega
      case rel => exact ⟨3, by omega, rfl, rfl, rfl, rfl⟩
    | 3, _ =>
      go_wp2_with (first
        | (go_at_call 122; refine (grow_calls _).mono ?_; rintro e w2 ⟨v0, rfl, ho, hg⟩; have Ho := Lib.hid ho; have Hg := hg; clear ho hg)
        | fail)
      go_loopg [6, 27] 3 (fun n v i wr => ∃ (j : Nat) (u : Value), u = v ∧ j ≤ 3 ∧ n = 3 - j ∧ i = .int .i64 j ∧ Gr w wr ∧ Hid (wr.ownsRow w.heap.size 114 9 u (upTo j) (if j ≤ 1 then [] else x)))
      case atStart => exact ⟨0, _, rfl, by omega, rfl, rfl, Hg, Ho⟩
      case round =>
        obtain ⟨i0, hi, _, _, _⟩ := info_parts infoHeld
        obtain ⟨j, v, rfl, hj, rfl, rfl, gr, ho⟩ := hrel
        match j, hj with
        | 0, _ =>
          have cj := Gr.at gr (Hc.out 0 (by omega))
          simp only [thirdOf] at cj
          have ho' : wr.ownsRow w.heap.size 114 9 v 0 [] := ho.out
          obtain ⟨q, cp, rfl, hcp⟩ := row_form ho'
          have hr := run_append_empty (P := Try.prog) wr 111 111 114 i0 Try.underlying111 hi q _ cp none 0 hcp
          go_wp2_with (first
            | (refine wpList_append_run wr rfl _ _ _ _ rfl _ _ (by rfl) (by rfl) _ _ hr ?_)
            | fail)
          go_roundg (3 - 1)
          case measure => omega
          case rel => exact ⟨1, _, rfl, by omega, rfl, rfl, gr, Lib.hid ho'⟩
        | 1, _ =>
          have cj := Gr.at gr (Hc.out 1 (by omega))
          simp only [thirdOf] at cj
          have ho' : wr.ownsRow w.heap.size 114 9 v 0 [] := ho.out
          have hlt := ho'.lt
          go_wp2_with (first
            | (refine wpList_append_one rfl _ _ 111 114 rfl Try.underlying111 infoHeld rfl (by decide) w.heap.size v 0 [] b 1 x (by rfl) (by rfl) ho' gr.size Hx.out (fun j u hu => Gr.at gr (Hb.out j u hu)) H1.out (by decide) (by decide) ?_
               intro v' w' h2 h3 h4
               have gr' : Gr w w' := Below.trans gr (grownBy_below h3 gr.size fun k hk => (hlt k hk).1)
               have Ho2 := Lib.hid h2
               clear h2 h3 h4)
            | fail)
          go_roundg (3 - 2)
          case measure => omega
          case rel => exact ⟨2, _, rfl, by omega, rfl, rfl, gr', Ho2⟩
        | 2, _ =>
          have cj := Gr.at gr (Hc.out 2 (by omega))
          simp only [thirdOf] at cj
          have ho' : wr.ownsRow w.heap.size 114 9 v 1 x := ho.out
          obtain ⟨q, cp, rfl, hcp⟩ := row_form ho'
          have hr := run_append_empty (P := Try.prog) wr 111 111 114 i0 Try.underlying111 hi q _ cp none 0 hcp
          go_wp2_with (first
            | (refine wpList_append_run wr rfl _ _ _ _ rfl _ _ (by rfl) (by rfl) _ _ hr ?_)
            | fail)
          go_roundg (3 - 3)
          case measure => omega
          case rel => exact ⟨3, _, rfl, by omega, rfl, rfl, gr, Lib.hid ho'⟩
        | 3, _ =>
          have ho' : wr.ownsRow w.heap.size 114 9 v 1 x := ho.out
          go_wp2_with fail
          exact hR.out v wr ho' gr
end Go.Proofs.Ytgaijgadeodoeaa
