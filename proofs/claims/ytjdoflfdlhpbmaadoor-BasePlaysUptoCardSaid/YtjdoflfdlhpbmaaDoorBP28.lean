/-
  hornlaw.seen
-/
import Derived.Test.YtjdoflfdlhpbmaaDoorBP27
import Derived.Test.YtjdoflfdlhpbmaaDoorBP23
namespace Go.Proofs.YtjdoflfdlhpbmaaDoor
open Go.RowKit Go.Maps Go.Lib

/-- A step. -/
structure Stp where
  k : Int
  h : Tm
  b : Tm
  f : Bool
  n : Int
  g : Tm
def Stp.val (x : Stp) : Value := .agg #[.int .i64 x.k, .int .i64 x.h.k, .int .i64 x.h.n, .string x.h.s, .slice x.h.p x.h.l.length x.h.c, .int .i64 x.b.k, .int .i64 x.b.n, .string x.b.s, .slice x.b.p x.b.l.length x.b.c, .bool x.f, .int .i64 x.n, .int .i64 x.g.k, .int .i64 x.g.n, .string x.g.s, .slice x.g.p x.g.l.length x.g.c]
/-- The two bases and the views tell the same. -/
structure PlOk (lo n : Nat) (w : World) (s : PlaySt) : Prop where
  m : PlM lo w s
  a : Agree s.st (s.RL.map Hr.er)
  c : ∀ y ∈ s.RL, y.h.erase.callable = true
  e : ∀ y ∈ s.vs, VwAg y
  nr : s.RL.length ≤ n
  nv : s.vs.length ≤ n
/-- What is left when a step is over. -/
def RetPl (lo n : Nat) (s : PlaySt) (w : World) (e : Ending) (w' : World) : Prop := e = .returned (.bool true) ∧ ∃ s', PlOk lo (n + 1) w' s' ∧ s'.B = s.B ∧ s'.R = s.R ∧ s'.X = s.X ∧ Kp (fun b => lo ≤ b) w w'
section
variable {lo n : Nat} {w w' : World} {s : PlaySt}
theorem PlOk.gr (h : PlOk lo n w s) (hg : Gr w w') : PlOk lo n w' s := ⟨h.m.gr hg, h.a, h.c, h.e, h.nr, h.nv⟩
theorem PlOk.last (h : PlOk lo n w s) : s.st.last = s.RL.length := by rw [h.a.last, List.length_map]
/-- Nothing has turned. -/
theorem PlOk.same (h : PlOk lo n w s) (hg : Gr w w') : RetPl lo n s w (.returned (.bool true)) w' := ⟨rfl, s, ⟨h.m.gr hg, h.a, h.c, h.e, Nat.le_succ_of_le h.nr, Nat.le_succ_of_le h.nv⟩, rfl, rfl, rfl, (Kp.of_gr hg : Kp (fun _ => False) w w').mono fun _ h => h.elim⟩
/-- The document's view and the program's tell the same. -/
theorem PlOk.view (h : PlOk lo n w s) (g : T) : ((s.RL.filter fun y => viewP g y.er).map Hr.er).map HrT.d = ((s.st.pr (keyT g)).getD []).filter fun y => letsT g y.h := by
  rw [← viewR_d h.a, ← viewP_eq (R := s.RL.map Hr.er) fun x hx => by
    obtain ⟨y, hy, rfl⟩ := List.mem_map.1 hx
    exact h.c y hy]
  rw [List.filter_map]
  rfl
end

set_option maxHeartbeats 8000000 in
set_option maxRecDepth 100000 in
theorem seen_bad (lo n : Nat) (w : World) (s : PlaySt) (x : Stp) (h : PlOk lo n w s) (hg : x.g.In w) (hk : x.k = 4 ∨ x.k = 5) (hE : (x.g.erase.formed && x.g.erase.callable) = false) :
    Calls Tryd.prog 28 #[.pointer (some ⟨s.B, 0, none⟩), .pointer (some ⟨s.R, 0, none⟩), .pointer (some ⟨s.X, 0, none⟩), x.val] w (RetPl lo n s w) := by
  have hR : Hid (∀ w', Gr w w' → RetPl lo n s w (.returned (.bool true)) w') := fun w' h1 => h.same h1
  generalize RetPl lo n s w = Q at hR ⊢
  clear h
  have HGv := Lib.hid (show x.g.val = .agg #[.int .i64 x.g.k, .int .i64 x.g.n, .string x.g.s, .slice x.g.p x.g.l.length x.g.c] from rfl)
  obtain ⟨ff, hff⟩ : ∃ ff, x.g.erase.formed = ff := ⟨_, rfl⟩
  have Hform := Lib.hid (fun W (g : Gr w W) => show Calls Tryd.prog 13 #[.agg #[.int .i64 x.g.k, .int .i64 x.g.n, .string x.g.s, .slice x.g.p x.g.l.length x.g.c]] W (Ret (.bool ff) W) from by have := rformed_calls (Tm.In_below g hg); rw [hff] at this; exact this)
  obtain ⟨E, hE0, hEE⟩ : ∃ E : Int, E ≠ 0 ∧ ((x.g.erase.formed = false ∧ E = 2) ∨ (x.g.erase.formed = true ∧ x.g.erase.callable = false ∧ E = 7)) := by
    cases h1 : x.g.erase.formed with
    | false => exact ⟨2, by decide, .inl ⟨rfl, rfl⟩⟩
    | true => rw [h1, Bool.true_and] at hE; exact ⟨7, by decide, .inr ⟨rfl, hE, rfl⟩⟩
  have Hlook := Lib.hid (fun W (g : Gr w W) => show Calls Tryd.prog 72 #[.pointer (some ⟨s.B, 0, none⟩), .agg #[.int .i64 x.g.k, .int .i64 x.g.n, .string x.g.s, .slice x.g.p x.g.l.length x.g.c]] W _ from lookP_bad s.B x.g W (Tm.In_below g hg) E hEE)
  have Hview := Lib.hid (fun W (g : Gr w W) => show Calls Tryd.prog 74 #[.pointer (some ⟨s.B, 0, none⟩), .agg #[.int .i64 x.g.k, .int .i64 x.g.n, .string x.g.s, .slice x.g.p x.g.l.length x.g.c]] W _ from view_bad s.B x.g W (Tm.In_below g hg) E hEE)
  have hcal : ff = true → (x.g.k != 3) = true ∧ (x.g.k != 4) = true := fun h1 => by
    rw [hff, h1, Bool.true_and] at hE
    have hk : x.g.erase.k = x.g.k := by obtain ⟨_, _, _, _, _, _⟩ := x.g; rfl
    rw [T.callable, hk] at hE
    simp only [Bool.or_eq_false_iff, decide_eq_false_iff_not] at hE
    exact ⟨by simpa using hE.1, by simpa using hE.2⟩
  have Hcal := Lib.hid hcal
  have HEE : Hid ((ff = false ∧ E = 2) ∨ (ff = true ∧ E = 7)) := by rw [← hff]; exact hEE.imp id fun h => ⟨h.1, h.2.2⟩
  have hb1 : (E != 0) = true := by simp [hE0]
  have hb2 : (E == E) = true := by simp
  have hb3 : (E != E) = false := by simp
  have Hb := Lib.hid (And.intro hb1 (And.intro hb2 hb3))
  have Hk := Lib.hid hk
  clear hff hE hEE hcal hb1 hb2 hb3 hE0 hk
  rw [Stp.val]
  go_enter Tryd.func28, Tryd.ntmps28
  try simp only [List.append_eq, List.cons_append, List.nil_append]
  go_upto_region 1 with fail
  have hN := BlkT.new w 38 #[.int .i64 x.k, .int .i64 x.h.k, .int .i64 x.h.n, .string x.h.s, .slice x.h.p x.h.l.length x.h.c, .int .i64 x.b.k, .int .i64 x.b.n, .string x.b.s, .slice x.b.p x.b.l.length x.b.c, .bool x.f, .int .i64 x.n, .int .i64 x.g.k, .int .i64 x.g.n, .string x.g.s, .slice x.g.p x.g.l.length x.g.c]
  have gA : Gr w (w.alloc (.cells #[.int .i64 x.k, .int .i64 x.h.k, .int .i64 x.h.n, .string x.h.s, .slice x.h.p x.h.l.length x.h.c, .int .i64 x.b.k, .int .i64 x.b.n, .string x.b.s, .slice x.b.p x.b.l.length x.b.c, .bool x.f, .int .i64 x.n, .int .i64 x.g.k, .int .i64 x.g.n, .string x.g.s, .slice x.g.p x.g.l.length x.g.c] 38)) := by go_grown
  generalize w.alloc (.cells #[.int .i64 x.k, .int .i64 x.h.k, .int .i64 x.h.n, .string x.h.s, .slice x.h.p x.h.l.length x.h.c, .int .i64 x.b.k, .int .i64 x.b.n, .string x.b.s, .slice x.b.p x.b.l.length x.b.c, .bool x.f, .int .i64 x.n, .int .i64 x.g.k, .int .i64 x.g.n, .string x.g.s, .slice x.g.p x.g.l.length x.g.c] 38) = wA at *
  have HN := Lib.hid hN
  clear hN
  have c0 := HN.out.cell 0 (v := .int .i64 x.k) rfl
  have c11 := HN.out.cell 11 (v := .int .i64 x.g.k) rfl
  have c12 := HN.out.cell 12 (v := .int .i64 x.g.n) rfl
  have c13 := HN.out.cell 13 (v := .string x.g.s) rfl
  have c14 := HN.out.cell 14 (v := .slice x.g.p x.g.l.length x.g.c) rfl
  cases ff with
  | false =>
    obtain rfl : E = 2 := by rcases HEE.out with h | h <;> simp_all
    go_upto_region 6 with (first
      | (go_at_call 13; refine (Hform.out _ gA).mono ?_; rintro e w2 ⟨rfl, hg2⟩; replace hg2 : Gr wA w2 := hg2; have G2 := Lib.hid (gA.trans hg2); replace c0 := Gr.at hg2 c0; replace c11 := Gr.at hg2 c11; replace c12 := Gr.at hg2 c12; replace c13 := Gr.at hg2 c13; replace c14 := Gr.at hg2 c14; clear hg2)
      | fail)
    rcases Hk.out with e | e
    · rw [e] at c0
      go_wp2_with (first
        | (go_at_call 72; refine (Hlook.out _ G2.out).mono ?_; rintro e w3 ⟨rfl, hg3⟩; have G3 := Lib.hid (G2.out.trans hg3); clear hg3)
        | fail)
      exact hR.out _ G3.out
    · rw [e] at c0
      go_wp2_with (first
        | (go_at_call 74; refine (Hview.out _ G2.out).mono ?_; rintro e w3 ⟨rfl, hg3⟩; have G3 := Lib.hid (G2.out.trans hg3); clear hg3)
        | fail)
      exact hR.out _ G3.out
  | true =>
    obtain rfl : E = 7 := by rcases HEE.out with h | h <;> simp_all
    obtain ⟨hk3, hk4⟩ := Hcal.out rfl
    go_upto_region 6 with (first
      | (go_at_call 13; refine (Hform.out _ gA).mono ?_; rintro e w2 ⟨rfl, hg2⟩; replace hg2 : Gr wA w2 := hg2; have G2 := Lib.hid (gA.trans hg2); replace c0 := Gr.at hg2 c0; replace c11 := Gr.at hg2 c11; replace c12 := Gr.at hg2 c12; replace c13 := Gr.at hg2 c13; replace c14 := Gr.at hg2 c14; clear hg2)
      | fail)
    rcases Hk.out with e | e
    · rw [e] at c0
      go_wp2_with (first
        | (go_at_call 72; refine (Hlook.out _ G2.out).mono ?_; rintro e w3 ⟨rfl, hg3⟩; have G3 := Lib.hid (G2.out.trans hg3); clear hg3)
        | fail)
      exact hR.out _ G3.out
    · rw [e] at c0
      go_wp2_with (first
        | (go_at_call 74; refine (Hview.out _ G2.out).mono ?_; rintro e w3 ⟨rfl, hg3⟩; have G3 := Lib.hid (G2.out.trans hg3); clear hg3)
        | fail)
      exact hR.out _ G3.out


set_option maxHeartbeats 8000000 in
set_option maxRecDepth 100000 in
theorem seen_look (lo n : Nat) (w : World) (s : PlaySt) (x : Stp) (h : PlOk lo n w s) (hg : x.g.In w) (hk : x.k = 4) (hn : n ≤ 4194304) (hf : x.g.erase.formed = true) (hc : x.g.erase.callable = true) :
    Calls Tryd.prog 28 #[.pointer (some ⟨s.B, 0, none⟩), .pointer (some ⟨s.R, 0, none⟩), .pointer (some ⟨s.X, 0, none⟩), x.val] w (RetPl lo n s w) := by
  have hR : Hid (∀ w', Gr w w' → RetPl lo n s w (.returned (.bool true)) w') := fun w' h1 => h.same h1
  generalize RetPl lo n s w = Q at hR ⊢
  have HGv := Lib.hid (show x.g.val = .agg #[.int .i64 x.g.k, .int .i64 x.g.n, .string x.g.s, .slice x.g.p x.g.l.length x.g.c] from rfl)
  have Hform := Lib.hid (fun W (g : Gr w W) => show Calls Tryd.prog 13 #[.agg #[.int .i64 x.g.k, .int .i64 x.g.n, .string x.g.s, .slice x.g.p x.g.l.length x.g.c]] W (Ret (.bool true) W) from by have := rformed_calls (Tm.In_below g hg); rw [hf] at this; exact this)
  have hlast : s.st.last ≤ 8388608 := by have := h.last; have := h.nr; omega
  have Hlook := Lib.hid (fun W (g : Gr w W) => show Calls Tryd.prog 72 #[.pointer (some ⟨s.B, 0, none⟩), .agg #[.int .i64 x.g.k, .int .i64 x.g.n, .string x.g.s, .slice x.g.p x.g.l.length x.g.c]] W _ from lookP_calls (PlS W s.D) s.B s.M1 s.M2 s.va s.st x.g W (h.m.gr g).b (fun y hy => hy.1) (Tm.In_below g hg) hf hc hlast)
  have Hview := Lib.hid (fun W (g : Gr w W) => show Calls Tryd.prog 73 #[.pointer (some ⟨s.R, 0, none⟩), .agg #[.int .i64 x.g.k, .int .i64 x.g.n, .string x.g.s, .slice x.g.p x.g.l.length x.g.c]] W _ from rView_calls (PlS W s.D) s.R s.rp s.rc s.RL x.g W ⟨(h.m.gr g).r, (h.m.gr g).rl, fun hh => hh.2 (.inr (.inl rfl))⟩ (Tm.In_below g hg) (by have := h.nr; omega))
  have hV : lookT x.g.erase ((s.st.pr (keyT x.g.erase)).getD []) = (s.RL.filter fun y => viewP x.g.erase y.er).map (·.i) := by
    rw [lookT, ← h.view, List.map_map, List.map_map]
    rfl
  have h64 : ∀ m ∈ (s.RL.filter fun y => viewP x.g.erase y.er).map (·.i), In64 m := fun m hm => by
    obtain ⟨y, hy, rfl⟩ := List.mem_map.1 hm
    have h1 := h.a.ids y.er (List.mem_map.2 ⟨y, (List.mem_filter.1 hy).1, rfl⟩)
    rw [List.length_map] at h1
    have h2 := h.nr
    have e : y.er.i = y.i := rfl
    exact ⟨by omega, by omega⟩
  have hMl : (s.RL.filter fun y => viewP x.g.erase y.er).length ≤ 4194304 := by have := List.length_filter_le (fun y => viewP x.g.erase y.er) s.RL; have := h.nr; omega
  have HV := Lib.hid hV
  have H64 := Lib.hid h64
  have hkk : (x.g.k != 3) = false ∨ ((x.g.k != 3) = true ∧ (x.g.k != 4) = false) := by
    have hk : x.g.erase.k = x.g.k := by obtain ⟨_, _, _, _, _, _⟩ := x.g; rfl
    rw [T.callable, hk] at hc
    simp only [Bool.or_eq_true, decide_eq_true_eq] at hc
    by_cases h3 : x.g.k = 3
    · exact .inl (by simp [h3])
    · exact .inr ⟨by simp [h3], by have := hc.resolve_left h3; simp [this]⟩
  generalize hM : s.RL.filter (fun y => viewP x.g.erase y.er) = M at *
  have HM := Lib.hid hM
  have Hkk := Lib.hid hkk
  have Hk := Lib.hid hk
  have Hms := Lib.hid hMl
  clear h hV h64 hkk hk hf hc hlast hn hM
  rw [Stp.val]
  go_enter Tryd.func28, Tryd.ntmps28
  try simp only [List.append_eq, List.cons_append, List.nil_append]
  go_upto_region 1 with fail
  have hN := BlkT.new w 38 #[.int .i64 x.k, .int .i64 x.h.k, .int .i64 x.h.n, .string x.h.s, .slice x.h.p x.h.l.length x.h.c, .int .i64 x.b.k, .int .i64 x.b.n, .string x.b.s, .slice x.b.p x.b.l.length x.b.c, .bool x.f, .int .i64 x.n, .int .i64 x.g.k, .int .i64 x.g.n, .string x.g.s, .slice x.g.p x.g.l.length x.g.c]
  have gA : Gr w (w.alloc (.cells #[.int .i64 x.k, .int .i64 x.h.k, .int .i64 x.h.n, .string x.h.s, .slice x.h.p x.h.l.length x.h.c, .int .i64 x.b.k, .int .i64 x.b.n, .string x.b.s, .slice x.b.p x.b.l.length x.b.c, .bool x.f, .int .i64 x.n, .int .i64 x.g.k, .int .i64 x.g.n, .string x.g.s, .slice x.g.p x.g.l.length x.g.c] 38)) := by go_grown
  generalize w.alloc (.cells #[.int .i64 x.k, .int .i64 x.h.k, .int .i64 x.h.n, .string x.h.s, .slice x.h.p x.h.l.length x.h.c, .int .i64 x.b.k, .int .i64 x.b.n, .string x.b.s, .slice x.b.p x.b.l.length x.b.c, .bool x.f, .int .i64 x.n, .int .i64 x.g.k, .int .i64 x.g.n, .string x.g.s, .slice x.g.p x.g.l.length x.g.c] 38) = wA at *
  have HN := Lib.hid hN
  clear hN
  have c0 := HN.out.cell 0 (v := .int .i64 x.k) rfl
  have c11 := HN.out.cell 11 (v := .int .i64 x.g.k) rfl
  have c12 := HN.out.cell 12 (v := .int .i64 x.g.n) rfl
  have c13 := HN.out.cell 13 (v := .string x.g.s) rfl
  have c14 := HN.out.cell 14 (v := .slice x.g.p x.g.l.length x.g.c) rfl
  rw [Hk.out] at c0
  rcases Hkk.out with hk3 | ⟨hk3, hk4⟩
  all_goals
    go_upto_region 8 with (first
      | (go_at_call 13; refine (Hform.out _ gA).mono ?_; rintro e w2 ⟨rfl, hg2⟩; replace hg2 : Gr wA w2 := hg2; have G2 := Lib.hid (gA.trans hg2); replace c0 := Gr.at hg2 c0; replace c11 := Gr.at hg2 c11; replace c12 := Gr.at hg2 c12; replace c13 := Gr.at hg2 c13; replace c14 := Gr.at hg2 c14; have HN2 := Lib.hid (HN.out.gr hg2); clear hg2)
      | (go_at_call 72; refine (Hlook.out _ G2.out).mono ?_; rintro e w3 ⟨v, B0, rfl, hown, hg3⟩; have G3 := Lib.hid (G2.out.trans hg3); have HN3 := Lib.hid (HN2.out.gr hg3); rw [HV.out] at hown; obtain ⟨q1, d1, rfl, hsl⟩ := intsl_own hown H64.out; rw [List.length_map]; have HS := Lib.hid hsl; clear hg3 hown hsl)
      | fail)
    have c11 := HN3.out.cell 11 (v := .int .i64 x.g.k) rfl
    have c12 := HN3.out.cell 12 (v := .int .i64 x.g.n) rfl
    have c13 := HN3.out.cell 13 (v := .string x.g.s) rfl
    have c14 := HN3.out.cell 14 (v := .slice x.g.p x.g.l.length x.g.c) rfl
    go_wp2_with (first
      | (go_at_call 73; refine (Hview.out _ G3.out).mono ?_; rintro e w4 ⟨p4, c4, M4, rfl, hM4, hs4, hg4⟩; rw [HM.out] at hM4; subst hM4; have G4 := Lib.hid (Gr.trans G3.out hg4); have HM4 := Lib.hid hs4; have HS4 := Lib.hid (HS.out.mono hg4); clear hs4 hg4)
      | fail)
    have hMd := Hms.out
    go_loopg [12, 14] M4.length (fun m u i wr => ∃ (k : Nat) (v : Value), v = u ∧ k ≤ M4.length ∧ m = M4.length - k ∧ i = .int .i64 k ∧ Hid (wr.ownsRow w4.heap.size 3 1 v (M4.take k).length (((M4.take k).map (·.i)).map (.int .i64))) ∧ Gr w4 wr)
    case atStart => exact ⟨0, _, rfl, Nat.zero_le _, rfl, rfl, World.ownsRow_nil _ _ _ 1, Gr.rfl' _⟩
    case round =>
      obtain ⟨k, v, rfl, hk, rfl, rfl, ho, gr⟩ := hrel
      have hlc := HM4.out.len
      have hcm := HM4.out.cap
      by_cases hlt : k < M4.length
      · obtain ⟨b, o, rfl⟩ := HM4.out.ptr (by omega)
        have d0 := Gr.at gr (HM4.out.elem0 k hlt)
        have hs4r := gr.size
        have Htk := Lib.hid (show M4.take (k + 1) = M4.take k ++ [M4[k]] from List.take_succ_eq_append_getElem hlt)
        have Hlk := Lib.hid (show (M4.take k).length = k by rw [List.length_take]; omega)
        generalize M4[k] = y at *
        go_wp2_with (first
          | (at_builtin
             refine wpList_append_one rfl _ _ 40 3 rfl Tryd.underlying40 infoInt rfl (by decide) w4.heap.size v (M4.take k).length (((M4.take k).map (·.i)).map (.int .i64)) _ 1 [.int .i64 y.i] (by rfl) (by rfl) (ownsRow_gr ho.out (by go_grown)) (by simp; omega) rfl (by
               intro j u hu
               match j, hu with
               | 0, hu => cases hu; go_simp
               | j + 1, hu => simp at hu) (by
               intro u hu
               simp only [List.mem_cons, List.mem_nil_iff, or_false] at hu
               rw [hu]; rfl) (by have := Hlk.out; simp only [maxLen]; omega) (by have := Hlk.out; omega) ?_
             intro v' w' h2' h3 h4
             have gl := grownBy_below h3 (B := w4.heap.size) (by simp; omega) fun j hj => (ho.out.lt j hj).1
             have gw' : Gr w4 w' := Below.trans (show Below w4.heap.size w4 _ from Below.trans gr (by go_grown)) gl
             have HO := Lib.hid h2'
             clear h2' h3 h4 gl)
          | fail)
        go_roundg (M4.length - (k + 1))
        case measure => omega
        case rel => exact ⟨k + 1, v', rfl, by omega, rfl, by go_num, by rw [Htk.out, List.length_append, List.map_append, List.map_append]; exact HO, gw'⟩
      · obtain rfl : k = M4.length := by omega
        rw [List.take_length] at ho
        have ho2 := ho.out
        rw [← List.length_map (f := fun y : Hr => y.i)] at ho2
        obtain ⟨q2, d2, rfl, hsl2⟩ := intsl_own ho2 H64.out
        have hnum := numbers_calls q1 q2 d1 d2 (M4.map (·.i)) wr (HS4.out.mono gr) hsl2
        rw [List.length_map] at hnum
        have Hnum := Lib.hid hnum
        have Hgr := Lib.hid gr
        clear ho ho2 hsl2 hnum
        rw [List.length_map]
        go_wp2_with (first
          | (go_at_call 8; refine Hnum.out.mono ?_; rintro e w7 ⟨rfl, hg7⟩; have G7 := Lib.hid hg7; clear hg7)
          | fail)
        exact hR.out _ ((G4.out.trans Hgr.out).trans G7.out)

end Go.Proofs.YtjdoflfdlhpbmaaDoor
