/-
  slices.Insert and (*base.Base).Add where the base is new.
-/
import Derived.Test.YtgaijgadeodoeaaW5
import Derived.Test.YtgaijgadeodoeaaVH
import Derived.Deep.QuietTactic
import Derived.BigRegion
namespace Go.Proofs.Ytgaijgadeodoeaa
open Go.RowKit Go.Maps Go.Lib

theorem infoInt : (Try.prog.info? 3).map (fun i => (i.zero, i.size, i.bytes)) = some (some (.int .i64 0), 1, 8) := by kernel_rfl

set_option maxHeartbeats 1000000 in
set_option maxRecDepth 100000 in
theorem insert_calls (b : Nat) (x : Int) (w : World) (c0 : w.cell? ⟨b, 0, none⟩ = some (.int .i64 x)) :
    Calls Try.prog 90 #[.slice none 0 0, .int .i64 0, .slice (some ⟨b, 0, none⟩) 1 1] w fun e w' => ∃ q c, e = .returned (.slice q 1 c) ∧ Gr w w' := by
  have hR : Hid (∀ q c w', Gr w w' → (fun (e : Ending) (w' : World) => ∃ q c, e = .returned (.slice q 1 c) ∧ Gr w w') (.returned (.slice q 1 c)) w') := fun q c w' hg => ⟨q, c, rfl, hg⟩
  generalize hQ : (fun (e : Ending) (w' : World) => ∃ q c, e = .returned (.slice q 1 c) ∧ Gr w w') = Q at hR ⊢
  clear hQ
  have Hc := Lib.hid c0
  clear c0
  go_enter Try.func90, Try.ntmps90
  try simp only [List.append_eq, List.cons_append, List.nil_append]
  go_wp2_with (first
    | (refine wpList_append_one rfl _ _ 24 3 rfl Try.underlying24 infoInt rfl (by decide) w.heap.size (.slice none 0 0) 0 [] b 1 [.int .i64 x] (by rfl) (by rfl) (World.ownsRow_nil w _ _ 1) (Nat.le_refl _) rfl (by
         intro j u hu
         match j, hu with
         | 0, hu => cases hu; exact Hc.out
         | j + 1, hu => simp at hu) (by
         intro u hu
         simp only [List.mem_cons, List.mem_nil_iff, or_false] at hu
         rw [hu]; rfl) (by decide) (by decide) ?_
       intro v' w' h2 h3 h4
       have gr' : Gr w w' := grownBy_below h3 (Nat.le_refl _) fun k hk => by cases hk
       obtain ⟨q, cq, rfl, _⟩ := row_form h2
       clear h2 h3 h4)
    | fail)
  exact hR.out _ _ _ gr'

/-! ### What a base is -/
theorem bpred_row : 109 < Try.prog.types.size := of_decide_eq_true (by kernel_rfl)
theorem bpred_wide : (match Try.prog.underlying 109 with | some (.array _ _) | some (.struct _) => true | _ => false) = true := by rw [Try.underlying109]
set_option maxRecDepth 100000 in
theorem bpred_law : WideMaps.KeyLaw Try.prog 109 := deep_law_laid laidOut_ (m := 2) (by omega) bpred_row (by kernel_rfl) bpred_wide
theorem bpred_keyed : Keyed Try.prog 109 := Keyed.of_law bpred_law
def bpredLit (s : List UInt8) (n : Int) : Lit := .string (keyBytes [.string s, .int .i64 n])
theorem keyOf_bpred {s : ByteArray} {n : Int} (hs : s.size ≤ maxLen) (hn : (Lit.int .i64 n).wf = true) : keyOf Try.prog 109 (.agg #[.string s, .int .i64 n]) = some (bpredLit s.data.toList n) := by
  have hk : Try.prog.keyType 109 = true := by kernel_rfl
  have hc : Try.prog.cellsOf 109 = 2 := by kernel_rfl
  have hcs : Try.prog.cellsOf 9 = 1 := by kernel_rfl
  have hci : Try.prog.cellsOf 3 = 1 := by kernel_rfl
  have hf : (Value.agg #[.string s, .int .i64 n]).formed Try.prog 109 = true := by simp [Value.formed, Try.underlying109, hc]
  obtain ⟨m, hm⟩ : ∃ m, Try.prog.types.size = m + 1 := ⟨Try.prog.types.size - 1, by have := bpred_row; omega⟩
  unfold keyOf
  rw [Try.underlying109]
  simp only [hk, hf, Bool.and_self, if_true]
  rw [show Try.prog.types.size + 1 = (m + 1) + 1 by omega]
  unfold Program.keyLits
  simp only [Try.underlying109]
  unfold Program.keyLits
  simp [Value.cells, hc, hcs, hci, Try.underlying9, Try.underlying3, hs, hn, bpredLit]

def kPred (x : ByteArray × Int) : Value := .agg #[.string x.1, .int .i64 x.2]
def kInt (n : Int) : Value := .int .i64 n
theorem kPred_inj {x y : ByteArray × Int} (h : kPred y = kPred x) : y = x := by
  obtain ⟨s, n⟩ := x
  obtain ⟨s', n'⟩ := y
  simpa [kPred] using h
theorem kInt_inj {x y : Int} (h : kInt y = kInt x) : y = x := by simpa [kInt] using h
theorem zero_held (w : World) : (zeroValue 111).run Try.prog w = .ok (.slice none 0 0) w := by kernel_rfl
theorem zero_bpred (w : World) : (zeroValue 109).run Try.prog w = .ok (.agg #[.string ⟨#[]⟩, .int .i64 0]) w := by kernel_rfl

/-- A base in which nothing is. -/
structure NewBase (w : World) (B M1 M2 : Nat) : Prop where
  blk : BlkT w B 107 #[.int .i64 0, .slice none 0 0, .map (some M1), .map (some M2)]
  m1 : GMap 109 kPred w M1 fun _ => none
  m2 : GMap 3 kInt w M2 fun _ => none
  n1 : M1 ≠ B
  n2 : M2 ≠ B
  n3 : M1 ≠ M2

theorem put_fun {K : Type} (x : K) (v : Value) : ∃ f : K → Option Value, f x = some v ∧ ∀ y, y ≠ x → f y = none := by
  classical
  exact ⟨fun y => if y = x then some v else none, if_pos rfl, fun y hy => if_neg hy⟩

def heldCells (i : Int) (h b : Tm) : List Value := [.int .i64 i, .int .i64 h.k, .int .i64 h.n, .string h.s, .slice h.p h.l.length h.c, .int .i64 b.k, .int .i64 b.n, .string b.s, .slice b.p b.l.length b.c]
theorem heldCells_one (i : Int) (h b : Tm) : ∀ u ∈ heldCells i h b, u.oneCell' = true := by
  intro u hu
  simp only [heldCells, List.mem_cons, List.mem_nil_iff, or_false] at hu
  rcases hu with rfl | rfl | rfl | rfl | rfl | rfl | rfl | rfl | rfl <;> rfl

/-- A base with one clause, of such a predicate. -/
structure OneBase (w : World) (B M1 M2 : Nat) (s : ByteArray) (n : Int) (t u : T) : Prop where
  blk : ∃ v, BlkT w B 107 #[.int .i64 1, v, .map (some M1), .map (some M2)]
  m1 : ∃ hv f, GMap 109 kPred w M1 f ∧ f (s, n) = some hv ∧ ∃ h b : Tm, w.ownsRow 0 114 9 hv 1 (heldCells 1 h b) ∧ h.In w ∧ b.In w ∧ h.erase = t ∧ b.erase = u
  m2 : ∃ f, GMap 3 kInt w M2 f ∧ f 1 = some (.agg #[.string s, .int .i64 n])

theorem OneBase.gr {w w' : World} {B M1 M2 : Nat} {s : ByteArray} {n : Int} {t u : T} (h : OneBase w B M1 M2 s n t u) (hg : Gr w w') : OneBase w' B M1 M2 s n t u := by
  obtain ⟨⟨v, h1⟩, ⟨hv, f, h2, h3, a, b, h4, h5, h6, h7⟩, ⟨f2, h8, h9⟩⟩ := h
  exact ⟨⟨v, h1.gr hg⟩, ⟨hv, f, h2.gr hg, h3, a, b, ownsRow_gr h4 hg, Tm.In_below hg h5, Tm.In_below hg h6, h7⟩, ⟨f2, h8.gr hg, h9⟩⟩

/-! ### What is made on the way -/
def heldV (S : Nat → Prop) (t u : T) : VP := fun v w => ∃ h b : Tm, v = .agg (heldCells 1 h b).toArray ∧ h.In w ∧ b.In w ∧ h.erase = t ∧ b.erase = u ∧ h.On S ∧ b.On S
theorem heldV_stable {S : Nat → Prop} {t u : T} : ∀ v w w', heldV S t u v w → Gr w w' → heldV S t u v w' := fun _ _ _ ⟨h, b, h1, h2, h3, h4⟩ hg => ⟨h, b, h1, Tm.In_below hg h2, Tm.In_below hg h3, h4⟩
def rowV (S : Nat → Prop) (t u : T) : VP := fun v w => ∃ (h b : Tm) (g : Nat), v = .slice (some ⟨g, 0, none⟩) 1 1 ∧ (∀ j x, (heldCells 1 h b)[j]? = some x → w.cell? ⟨g, j, none⟩ = some x) ∧ h.In w ∧ b.In w ∧ h.erase = t ∧ b.erase = u ∧ h.On S ∧ b.On S
theorem rowV_stable {S : Nat → Prop} {t u : T} : ∀ v w w', rowV S t u v w → Gr w w' → rowV S t u v w' := fun _ _ _ ⟨h, b, g, h1, h0, h2, h3, h4⟩ hg => ⟨h, b, g, h1, fun j x hx => Gr.at hg (h0 j x hx), Tm.In_below hg h2, Tm.In_below hg h3, h4⟩
def threeV (S : Nat → Prop) (t u : T) : VP := fun v w => ∃ (h b : Tm) (g a : Nat), v = .slice (some ⟨a, 0, none⟩) 3 3 ∧ w.cell? ⟨a, 0, none⟩ = some (.slice none 0 0) ∧ w.cell? ⟨a, 1, none⟩ = some (.slice (some ⟨g, 0, none⟩) 1 1) ∧ w.cell? ⟨a, 2, none⟩ = some (.slice none 0 0) ∧
  (∀ j x, (heldCells 1 h b)[j]? = some x → w.cell? ⟨g, j, none⟩ = some x) ∧ h.In w ∧ b.In w ∧ h.erase = t ∧ b.erase = u ∧ h.On S ∧ b.On S
theorem threeV_stable {S : Nat → Prop} {t u : T} : ∀ v w w', threeV S t u v w → Gr w w' → threeV S t u v w' := fun _ _ _ ⟨h, b, g, a, h1, c0, c1, c2, h0, h2, h3, h4⟩ hg => ⟨h, b, g, a, h1, Gr.at hg c0, Gr.at hg c1, Gr.at hg c2, fun j x hx => Gr.at hg (h0 j x hx), Tm.In_below hg h2, Tm.In_below hg h3, h4⟩
def ownV (B0 : Nat) (S : Nat → Prop) (t u : T) : VP := fun v w => ∃ h b : Tm, w.ownsRow B0 114 9 v 1 (heldCells 1 h b) ∧ h.In w ∧ b.In w ∧ h.erase = t ∧ b.erase = u ∧ h.On S ∧ b.On S
theorem row_cells {w : World} {base : Nat} {e : TypeId} {v : Value} {x : List Value} {size : Nat} (h : w.ownsRow base e size v 1 x) : ∃ g cap, v = .slice (some ⟨g, 0, none⟩) 1 cap ∧ 1 ≤ cap ∧ ∀ j u, x[j]? = some u → w.cell? ⟨g, j, none⟩ = some u := by
  rcases h.2 with ⟨_, h0⟩ | ⟨g, cap, cur, rfl, _, _, h1, _⟩
  · cases h0
  · refine ⟨g, cap, rfl, h1, fun j u hu => ?_⟩
    have := World.ownsRow.cells (g := g) h rfl j u hu
    rwa [Go.WideShapes.add_plain, Nat.zero_add] at this
theorem row_le {w : World} {base base' size n : Nat} {e : TypeId} {v : Value} {xs : List Value} (h : w.ownsRow base e size v n xs) (hb : base' ≤ base) : w.ownsRow base' e size v n xs :=
  ⟨h.1, h.2.imp id fun ⟨g, cap, cur, hv, hg, r⟩ => ⟨g, cap, cur, hv, Nat.le_trans hb hg, r⟩⟩
theorem ownsRow_kp {C : Nat → Prop} {w w' : World} {base : Nat} {e : TypeId} {size : Nat} {v : Value} {n : Nat} {xs : List Value} (h : w.ownsRow base e size v n xs) (hK : Kp C w w') (hC : ∀ b, base ≤ b → ¬ C b) : w'.ownsRow base e size v n xs := by
  refine ⟨h.1, h.2.imp id ?_⟩
  rintro ⟨g, cap, cur, rfl, h2, h3, h4⟩
  exact ⟨g, cap, cur, rfl, h2, by rw [hK.block g (Array.getElem?_eq_some_iff.1 h3).1 (hC g h2)]; exact h3, h4⟩
def oneIntV (x : Int) : VP := fun v w => ∃ g : Nat, v = .slice (some ⟨g, 0, none⟩) 1 1 ∧ w.cell? ⟨g, 0, none⟩ = some (.int .i64 x)
theorem oneIntV_stable {x : Int} : ∀ v w w', oneIntV x v w → Gr w w' → oneIntV x v w' := fun _ _ _ ⟨g, h1, h2⟩ hg => ⟨g, h1, Gr.at hg h2⟩
def sliceV : VP := fun v _ => ∃ (q : Option Addr) (n c : Nat), v = .slice q n c
theorem sliceV_stable : ∀ v w w', sliceV v w → Gr w w' → sliceV v w' := fun _ _ _ h _ => h
theorem ownV_stable {B0 : Nat} {S : Nat → Prop} {t u : T} : ∀ v w w', ownV B0 S t u v w → Gr w w' → ownV B0 S t u v w' := fun _ _ _ ⟨h, b, h1, h2, h3, h4⟩ hg => ⟨h, b, ownsRow_gr h1 hg, Tm.In_below hg h2, Tm.In_below hg h3, h4⟩
end Go.Proofs.Ytgaijgadeodoeaa
