/-
  The first solution with one of some numbers: plain; the function that keeps one solution.
  domain.Best: the walk.
-/
import Derived.Test.YtbapmokbkjmdcaaDK03
namespace Go.Proofs.Ytbapmokbkjmdcaa
open Go.RowKit Go.Maps Go.Lib

theorem sols_sub {C : List Con} {D E : List (List Int)} (hn : ∀ d ∈ D, d.Nodup) (hok : ∀ c ∈ C, c.ok D.length = true) (hs : SubD E D) (hm : ∀ F, AC C F → InD F D → InD F E) : sols C E = sols C D := by
  unfold sols
  rw [prodL_sub hn hs, List.filter_filter]
  refine List.filter_congr fun s hs => ?_
  cases hk : satAll C s with
  | false => simp
  | true => rw [inAll_of (sols_left hok (mem_sols.2 ⟨hs, hk⟩) hm)]; rfl
/-- The first solution with one of the numbers. -/
def firstSol (C : List Con) (D : List (List Int)) (v : Nat) : List Int → Option (List Int)
  | [] => none
  | n :: ns => match sols C (D.set v [n]) with
    | s :: _ => some s
    | [] => firstSol C D v ns
theorem firstSol_nil {C : List Con} {D : List (List Int)} {v : Nat} {n : Int} {ns : List Int} (h : sols C (D.set v [n]) = []) : firstSol C D v (n :: ns) = firstSol C D v ns := by rw [firstSol, h]
theorem firstSol_hit {C : List Con} {D : List (List Int)} {v : Nat} {n : Int} {ns : List Int} {s : List Int} {l : List (List Int)} (h : sols C (D.set v [n]) = s :: l) : firstSol C D v (n :: ns) = some s := by rw [firstSol, h]
theorem firstSol_filter {C : List Con} {D : List (List Int)} {v : Nat} (p : Int → Bool) : ∀ l : List Int, (∀ n ∈ l, p n = false → sols C (D.set v [n]) = []) → firstSol C D v (l.filter p) = firstSol C D v l
  | [], _ => rfl
  | n :: ns, h => by
    have ih := firstSol_filter p ns fun m hm => h m (List.mem_cons_of_mem _ hm)
    cases hp : p n with
    | true =>
      rw [List.filter_cons_of_pos hp, firstSol, firstSol, ih]
    | false =>
      rw [List.filter_cons_of_neg (by rw [hp]; decide), ih, firstSol_nil (h n (List.mem_cons_self ..) hp)]
theorem firstSol_congr {C : List Con} {D E : List (List Int)} {v : Nat} : ∀ l : List Int, (∀ n ∈ l, sols C (D.set v [n]) = sols C (E.set v [n])) → firstSol C D v l = firstSol C E v l
  | [], _ => rfl
  | n :: ns, h => by rw [firstSol, firstSol, h n (List.mem_cons_self ..), firstSol_congr ns fun m hm => h m (List.mem_cons_of_mem _ hm)]
theorem firstSol_none {C : List Con} {D : List (List Int)} {v : Nat} : ∀ l : List Int, (∀ n ∈ l, sols C (D.set v [n]) = []) → firstSol C D v l = none
  | [], _ => rfl
  | n :: ns, h => by rw [firstSol_nil (h n (List.mem_cons_self ..))]; exact firstSol_none ns fun m hm => h m (List.mem_cons_of_mem _ hm)
theorem getD_set {D : List (List Int)} {v i : Nat} {d : List Int} (hv : v < D.length) : (D.set v d).getD i [] = if v = i then d else D.getD i [] := by
  by_cases h : v = i
  · subst h
    rw [if_pos rfl, List.getD_eq_getElem?_getD, List.getElem?_set_self hv]; rfl
  · rw [if_neg h, List.getD_eq_getElem?_getD, List.getElem?_set_ne h, ← List.getD_eq_getElem?_getD]
/-- A solution with a number is one. -/
theorem sols_set {C : List Con} {D : List (List Int)} {v : Nat} {n : Int} (hv : v < D.length) (hn : n ∈ D.getD v []) {s : List Int} (h : s ∈ sols C (D.set v [n])) : s ∈ sols C D ∧ s.getD v 0 = n := by
  obtain ⟨h1, h2⟩ := mem_sols.1 h
  obtain ⟨h3, h4⟩ := mem_prodL.1 h1
  rw [List.length_set] at h3 h4
  have h5 : s.getD v 0 = n := by
    have := h4 v hv
    rw [getD_set hv, if_pos rfl] at this
    exact List.mem_singleton.1 this
  refine ⟨mem_sols.2 ⟨mem_prodL.2 ⟨h3, fun i hi => ?_⟩, h2⟩, h5⟩
  have := h4 i hi
  rw [getD_set hv] at this
  by_cases hvi : v = i
  · subst hvi; rw [h5]; exact hn
  · rwa [if_neg hvi] at this
theorem firstSol_red {C : List Con} {D E : List (List Int)} {v : Nat} (hv : v < D.length) (hn : ∀ d ∈ D, d.Nodup) (hok : ∀ c ∈ C, c.ok D.length = true) (hE : RedOk C D E) : firstSol C E v (E.getD v []) = firstSol C D v (D.getD v []) := by
  have hvE : v < E.length := by rw [hE.sub.1]; exact hv
  have hsub := hE.sub.2 v
  have hnd : (D.getD v []).Nodup := by rw [getD_lt [] hv]; exact hn _ (List.getElem_mem hv)
  have h1 : firstSol C D v (E.getD v []) = firstSol C D v (D.getD v []) := by
    have hf := sublist_filter hsub hnd
    conv => lhs; rw [hf]
    refine firstSol_filter _ _ fun n hnD hnE => List.eq_nil_iff_forall_not_mem.2 fun s hs => ?_
    obtain ⟨h2, h3⟩ := sols_set hv hnD hs
    have h4 := (mem_prodL.1 (sols_left hok h2 hE.most)).2 v hvE
    rw [h3] at h4
    exact of_decide_eq_false hnE h4
  rw [← h1]
  refine firstSol_congr _ fun n hnE => ?_
  have hnD : n ∈ D.getD v [] := hsub.subset hnE
  refine sols_sub (fun d hd => ?_) (fun c hc => by rw [List.length_set]; exact hok c hc) ⟨by rw [List.length_set, List.length_set]; exact hE.sub.1, fun i => ?_⟩ fun F hF hFD => ?_
  · rcases List.mem_or_eq_of_mem_set hd with hd | rfl
    · exact hn d hd
    · simp
  · rw [getD_set hv, getD_set hvE]
    split
    · exact List.Sublist.refl _
    · exact hE.sub.2 i
  · have hFD0 : InD F D := ⟨by rw [hFD.1, List.length_set], fun i y hy => by
      have := hFD.2 i y hy
      rw [getD_set hv] at this
      by_cases hvi : v = i
      · subst hvi
        rw [if_pos rfl] at this
        rw [List.mem_singleton.1 this]; exact hnD
      · rwa [if_neg hvi] at this⟩
    have hFE := hE.most F hF hFD0
    refine ⟨by rw [List.length_set]; exact hFE.1, fun i y hy => ?_⟩
    rw [getD_set hvE]
    have := hFD.2 i y hy
    rw [getD_set hv] at this
    split
    · rename_i hvi; rwa [if_pos hvi] at this
    · exact hFE.2 i y hy
theorem firstSol_no {C : List Con} {D : List (List Int)} {v : Nat} (hv : v < D.length) (hok : ∀ c ∈ C, c.ok D.length = true) (h : RedNo C D) : firstSol C D v (D.getD v []) = none :=
  firstSol_none _ fun n hn => List.eq_nil_iff_forall_not_mem.2 fun s hs => by
    have h1 := (sols_set hv hn hs).1
    rw [RedNo.sols hok h] at h1
    exact List.not_mem_nil h1
theorem cst_set {C : List Con} {D : List (List Int)} {v : Nat} {n : Int} {U : List (List Int)} (hok : ∀ c ∈ C, c.ok D.length = true) (hac : AC C D) (hU : UsesOk C U D.length) (hv : v < D.length) : ∀ (k : Nat) (x : Con), C[k]? = some x → (k : Int) ∉ U.getD v [] → Cst (D.set v [n]) x := fun k x hk hn => by
  have hx := List.mem_of_getElem? hk
  have hvv : (v : Int) ∉ x.vars := fun hm => hn (((hU.2 v hv).2 k).2 ⟨by omega, x, by rw [Int.toNat_natCast]; exact hk, hm⟩)
  refine (hac x hx).congr fun u hu => ?_
  have hu0 := Con.ok_var (hok x hx) hu
  have hne : v ≠ u.toNat := fun e => hvv (by rw [show ((v : Nat) : Int) = u by omega]; exact hu)
  show D.getD u.toNat [] = (D.set v [n]).getD u.toNat []
  rw [List.getD_eq_getElem?_getD, List.getD_eq_getElem?_getD, List.getElem?_set_ne hne]

/-- The solution that is kept, in the block bb. -/
structure TellB (w0 : World) (N bb : Nat) (a : Option (List Int)) (T : Nat → Prop) (w : World) : Prop where
  row : ∃ ov, BlkT w bb 38 #[ov] ∧ (a = none → ov = .slice none 0 0) ∧ ∀ s, a = some s → IntsOwn w w0.heap.size ov s ∧ s.length = N ∧ ∀ y ∈ s, Near y
  tur : ∀ b, T b ↔ b = bb
  geo : w0.heap.size ≤ bb
theorem TellB.stable {w0 : World} {N bb : Nat} {a : Option (List Int)} {T : Nat → Prop} {w w' : World} (h : TellB w0 N bb a T w) {B : Nat} (hk : Kp (TurnI B w) w w') : TellB w0 N bb a T w' := by
  obtain ⟨ov, h1, h2, h3⟩ := h.row
  exact ⟨⟨ov, h1.kp hk fun hc => hc.1.not (by decide) (.of h1), h2, fun s hs => ⟨ownsRow_kp (h3 s hs).1 hk fun g hg hc => hc.1.not (by decide) (ownsRow_type (h3 s hs).1 hg).1, (h3 s hs).2⟩⟩, h.tur, h.geo⟩

set_option maxHeartbeats 4000000 in
set_option maxRecDepth 100000 in
theorem tellB_calls (w0 : World) (N bb : Nat) (a : Option (List Int)) (T : Nat → Prop) (v : Value) (s : List Int) (w : World) (h : TellB w0 N bb a T w) (hv : IntsOwn w w0.heap.size v s) (hsl : s.length = N) (hsn : ∀ y ∈ s, Near y) :
    Calls Try.prog 40 #[v, .pointer (some ⟨bb, 0, none⟩)] w fun e w' => e = .returned (.bool false) ∧ ∃ T', TellB w0 N bb (some s) T' w' ∧ Kp T w w' ∧ ∀ b, T' b → T b ∨ w.heap.size ≤ b := by
  have hR : Hid (∀ w', (∃ T', TellB w0 N bb (some s) T' w' ∧ Kp T w w' ∧ ∀ b, T' b → T b ∨ w.heap.size ≤ b) → (fun (e : Ending) (w' : World) => e = .returned (.bool false) ∧ ∃ T', TellB w0 N bb (some s) T' w' ∧ Kp T w w' ∧ ∀ b, T' b → T b ∨ w.heap.size ≤ b) (.returned (.bool false)) w') := fun w' h => ⟨rfl, h⟩
  generalize (fun (e : Ending) (w' : World) => e = .returned (.bool false) ∧ ∃ T', TellB w0 N bb (some s) T' w' ∧ Kp T w w' ∧ ∀ b, T' b → T b ∨ w.heap.size ≤ b) = Q at hR ⊢
  obtain ⟨pv, cv, rfl⟩ := hv.form
  obtain ⟨ov, hb, -, -⟩ := h.row
  have hks : Kp (· = bb) w (w.setCell ⟨bb, 0, none⟩ (.slice pv s.length cv)) := Kp.set rfl
  have HF : Hid (∃ T', TellB w0 N bb (some s) T' (w.setCell ⟨bb, 0, none⟩ (.slice pv s.length cv)) ∧ Kp T w (w.setCell ⟨bb, 0, none⟩ (.slice pv s.length cv)) ∧ ∀ b, T' b → T b ∨ w.heap.size ≤ b) := by
    refine ⟨T, ⟨⟨_, hb.set 0 _, (fun h => by cases h), fun s' hs' => ?_⟩, h.tur, h.geo⟩, hks.mono fun b hb => (h.tur b).2 hb, fun b hb => .inl hb⟩
    cases hs'
    exact ⟨ownsRow_kp hv hks fun g hg hc => OfT.ne (ownsRow_type hv hg).1 (.of hb) (by decide) hc, hsl, hsn⟩
  have z0 := hb.cell 0 (v := ov) rfl
  have zf := hb.open_ 0
  clear h hv hsl hsn hb hks
  go_enter Try.func40, Try.ntmps40
  try simp only [List.append_eq, List.cons_append, List.nil_append]
  go_wp2_with fail
  exact hR.out _ HF.out
/-- What label tells, for Best. -/
def bestE (F : Fam) (w0 : World) (bb : Nat) : LbE (Option (List Int)) where
  F := F
  w0 := w0
  f := 40
  cap := #[.pointer (some ⟨bb, 0, none⟩)]
  st := TellB w0 F.N bb
  step := fun _ s => (some s, false)
  live := fun _ => True
theorem bestE_ok {F : Fam} {w0 : World} {bb : Nat} (hF : FamOk F w0) : LbOk (bestE F w0 bb) where
  fam := hF
  enter := fun v w => by kernel_rfl
  typ := fun a T w b h hb => by
    have h : TellB w0 F.N bb a T w := h
    obtain ⟨ov, h1, _⟩ := h.row
    rw [(h.tur b).1 hb]
    exact ⟨.inr (.of h1), h.geo⟩
  stable := fun a T w w' h hk => TellB.stable h hk
  liv := fun _ _ _ _ => trivial
  call := fun a T w v s _ h _ hv hn hs => tellB_calls w0 F.N bb a T v s w h hv hn hs
theorem feedS_best : ∀ L : List (List Int), (feedS (fun (_ : Option (List Int)) (s : List Int) => (some s, false)) none L).1 = L.head?
  | [] => rfl
  | s :: L => by rw [feedS]; rfl
end Go.Proofs.Ytbapmokbkjmdcaa

namespace Go.Proofs.Ytbapmokbkjmdcaa
open Go.RowKit Go.Maps Go.Lib

/-- What Best says. -/
def RetBest (x : Pb) (v : Int) (w : World) (en : Ending) (w' : World) : Prop := Gr w w' ∧
  ((checkP x.D x.cons ≠ 0 ∧ en = .returned (.tuple #[.slice none 0 0, .bool false, .int .i64 (checkP x.D x.cons)])) ∨
   (checkP x.D x.cons = 0 ∧ ¬ (0 ≤ v ∧ v < x.D.length) ∧ en = .returned (.tuple #[.slice none 0 0, .bool false, .int .i64 1])) ∨
   (checkP x.D x.cons = 0 ∧ (0 ≤ v ∧ v < x.D.length) ∧ firstSol x.cons x.D v.toNat (x.D.getD v.toNat []) = none ∧ en = .returned (.tuple #[.slice none 0 0, .bool false, .int .i64 0])) ∨
   (checkP x.D x.cons = 0 ∧ (0 ≤ v ∧ v < x.D.length) ∧ ∃ s p c, firstSol x.cons x.D v.toNat (x.D.getD v.toNat []) = some s ∧ en = .returned (.tuple #[.slice p s.length c, .bool true, .int .i64 0]) ∧ IntsOwn w' w.heap.size (.slice p s.length c) s ∧ ∀ y ∈ s, Near y))

set_option maxHeartbeats 16000000 in
set_option maxRecDepth 100000 in
theorem best_calls (x : Pb) (v : Int) (w : World) (hx : x.In w) (_ : In64 v) : Calls Try.prog 22 #[x.val, .int .i64 v] w (RetBest x v w) := by
  have HX := Lib.hid hx
  have hR1 : Hid (∀ ec w', checkP x.D x.cons = ec → ec ≠ 0 → Gr w w' → RetBest x v w (.returned (.tuple #[.slice none 0 0, .bool false, .int .i64 ec])) w') := fun ec w' h1 h2 h3 => ⟨h3, .inl ⟨by rw [h1]; exact h2, by rw [h1]⟩⟩
  have hR2 : Hid (∀ w', checkP x.D x.cons = 0 → ¬ (0 ≤ v ∧ v < x.D.length) → Gr w w' → RetBest x v w (.returned (.tuple #[.slice none 0 0, .bool false, .int .i64 1])) w') := fun w' h1 h2 h3 => ⟨h3, .inr (.inl ⟨h1, h2, rfl⟩)⟩
  have hR3 : Hid (∀ w', checkP x.D x.cons = 0 → (0 ≤ v ∧ v < x.D.length) → firstSol x.cons x.D v.toNat (x.D.getD v.toNat []) = none → Gr w w' → RetBest x v w (.returned (.tuple #[.slice none 0 0, .bool false, .int .i64 0])) w') := fun w' h1 h2 h3 h4 => ⟨h4, .inr (.inr (.inl ⟨h1, h2, h3, rfl⟩))⟩
  have hR4 : Hid (∀ s p c w', checkP x.D x.cons = 0 → (0 ≤ v ∧ v < x.D.length) → firstSol x.cons x.D v.toNat (x.D.getD v.toNat []) = some s → IntsOwn w' w.heap.size (.slice p s.length c) s → (∀ y ∈ s, Near y) → Gr w w' → RetBest x v w (.returned (.tuple #[.slice p s.length c, .bool true, .int .i64 0])) w') := fun s p c w' h1 h2 h3 h4 h5 h6 => ⟨h6, .inr (.inr (.inr ⟨h1, h2, s, p, c, h3, rfl, h4, h5⟩))⟩
  generalize RetBest x v w = Q at hR1 hR2 hR3 hR4 ⊢
  have HVal := Lib.hid (show x.val = .agg #[.slice x.dp x.D.length x.dc, .slice x.cp x.C.length x.cc] from rfl)
  rw [HVal.out]
  clear hx
  go_enter Try.func22, Try.ntmps22
  try simp only [List.append_eq, List.cons_append, List.nil_append]
  go_upto_region 1 with fail
  have hB := BlkT.new w 25 #[.slice x.dp x.D.length x.dc, .slice x.cp x.C.length x.cc]
  have gA : Gr w (w.alloc (.cells #[.slice x.dp x.D.length x.dc, .slice x.cp x.C.length x.cc] 25)) := by go_grown
  obtain ⟨bx, hbx⟩ : ∃ bx, w.heap.size = bx := ⟨_, rfl⟩
  have HBX := Lib.hid hbx
  rw [hbx] at hB ⊢
  clear hbx
  generalize w.alloc (.cells #[.slice x.dp x.D.length x.dc, .slice x.cp x.C.length x.cc] 25) = wB at *
  have HB := Lib.hid hB
  have HG := Lib.hid gA
  have b0 := HB.out.cell 0 (v := .slice x.dp x.D.length x.dc) rfl
  have b1 := HB.out.cell 1 (v := .slice x.cp x.C.length x.cc) rfl
  have Hc := Lib.hid (check_calls x wB (HX.out.mono HG.out))
  rw [HVal.out] at Hc
  obtain ⟨ec, hec⟩ : ∃ ec, checkP x.D x.cons = ec := ⟨_, rfl⟩
  rw [hec] at Hc
  have HEC := Lib.hid hec
  clear hB gA hec
  by_cases h0 : ec = 0
  case neg =>
    have hb1 : (ec == 0) = false := beq_eq_false_iff_ne.2 h0
    have hb2 : (ec != 0) = true := by rw [bne, hb1]; rfl
    have H0 := Lib.hid h0
    clear h0
    go_wp2_with (first
      | (go_at_call 9; refine Hc.out.mono ?_; rintro e1 w1 ⟨rfl, hb⟩; have HG1 := Lib.hid (HG.out.trans (show Gr wB w1 from hb)); clear hb b0 b1)
      | fail)
    exact hR1.out ec _ HEC.out H0.out HG1.out
  subst h0
  obtain ⟨c1, c2, c3, c4, c5⟩ := check_zero HEC.out
  have HOK0 := Lib.hid c2
  have HND0 : Hid (∀ d ∈ x.D, d.Nodup) := fun d hd => ((okDom_rise (c1 d hd)).1).imp fun h e => by omega
  have HFEW := Lib.hid c3
  have Hne := Lib.hid (fun W (hW : Gr wB W) => newEngine_calls x W (HX.out.mono (HG.out.trans hW)) c2 (fun d hd => (okDom_rise (c1 d hd)).2) c5 c3 (by rw [Pb.cons, List.length_map] at c4; exact c4))
  rw [HVal.out] at Hne
  clear c1 c2 c3 c4 c5
  have hDl := HX.out.lenD.1
  have hDc := HX.out.lenD.2
  by_cases hv0 : v < 0
  case pos =>
    have hd0 : decide (v < 0) = true := decide_eq_true hv0
    have HNV : Hid (¬ (0 ≤ v ∧ v < x.D.length)) := fun h => by omega
    clear hv0
    go_wp2_with (first
      | (go_at_call 9; refine Hc.out.mono ?_; rintro e1 w1 ⟨rfl, hb⟩; have HG1 := Lib.hid (HG.out.trans (show Gr wB w1 from hb)); clear hb b0 b1)
      | fail)
    exact hR2.out _ HEC.out HNV.out HG1.out
  have hd0 : decide (v < 0) = false := decide_eq_false hv0
  by_cases hv1 : (x.D.length : Int) ≤ v
  case pos =>
    have hd1 : decide (v ≥ (x.D.length : Int)) = true := decide_eq_true hv1
    have HNV : Hid (¬ (0 ≤ v ∧ v < x.D.length)) := fun h => by omega
    clear hv0 hv1
    go_wp2_with (first
      | (go_at_call 9; refine Hc.out.mono ?_; rintro e1 w1 ⟨rfl, hb⟩; have HG1 := Lib.hid (HG.out.trans (show Gr wB w1 from hb)); have b0 := (show Gr wB w1 from hb).at b0; have b1 := (show Gr wB w1 from hb).at b1; clear hb)
      | fail)
    exact hR2.out _ HEC.out HNV.out HG1.out
  have hd1 : decide (v ≥ (x.D.length : Int)) = false := decide_eq_false hv1
  obtain ⟨vn, rfl⟩ : ∃ vn : Nat, v = (vn : Int) := ⟨v.toNat, by omega⟩
  have hvn : vn < x.D.length := by omega
  have HVV : Hid ((0 : Int) ≤ (vn : Int) ∧ (vn : Int) < x.D.length) := ⟨by omega, by omega⟩
  simp only [Int.toNat_natCast] at hR3 hR4
  clear hv0 hv1
  go_upto_region 7 with (first
    | (go_at_call 9; refine Hc.out.mono ?_; rintro e1 w1 ⟨rfl, hb⟩; have HG1 := Lib.hid (show Gr wB w1 from hb); have b0 := HG1.out.at b0; have b1 := HG1.out.at b1; clear hb)
    | (go_at_call 30; refine (Hne.out _ HG1.out).mono ?_; rintro e2 w2 ⟨F, e, dB0, rfl, hFC, hFN, hFO, hFW, hEW, hg2⟩; have HFC := Lib.hid hFC; have HFN := Lib.hid hFN; have HFO := Lib.hid hFO; have HFW := Lib.hid hFW; have HEW0 := Lib.hid hEW; have HG2 := Lib.hid hg2; clear hFC hFN hFO hFW hEW hg2)
    | fail)
  clear b0 b1 hd0 hd1
  have HCO := Lib.hid (show F.cons = x.cons by rw [Fam.cons, HFC.out]; rfl)
  obtain ⟨dB, hEW, hdB⟩ := HEW0.out.pick
  have HEW := Lib.hid hEW
  have HDB := Lib.hid hdB
  clear hEW hdB HEW0
  have h12 : Gr w w1 := HG.out.trans HG1.out
  have H1S := Lib.hid h12.size
  have HG2W := Lib.hid (h12.trans HG2.out)
  have HKG : Hid (∀ W, Kp (fun x => x = dB ∨ TurnI w1.heap.size w2 x) w2 W → Gr w W) := fun W hk => Below.trans HG2W.out (hk.below (fun b hb => by
    rcases hb with hb | hb
    · have := HEW.out.ge.2; have := H1S.out; omega
    · have := hb.2; have := H1S.out; omega) HG2W.out.size)
  obtain ⟨dp0, dc0, -, a1, -, -, -, -, -⟩ := HEW.out.cells
  have Hal := Lib.hid (all_calls' e F.C.length F.pc F.cc w2 a1 (by have := HFO.out.few; omega))
  clear a1 h12
  by_cases hE : ∃ E, RedOk F.cons x.D E
  case neg =>
    have HNE := Lib.hid hE
    clear hE
    go_wp2_with (first
      | (go_at_call 32; refine Hal.out.mono ?_; rintro e3 w4 ⟨va, rfl, hown, hg3⟩; obtain ⟨pa, ca, rfl, hrd⟩ := reduceAll HFO.out HFW.out HEW.out hown hg3; have Hrd := Lib.hid hrd; clear hown hg3 hrd)
      | (go_at_call 31; refine Hrd.out.mono ?_; rintro e4 w5 ⟨rb, rfl, hfw, hkp, hyes, hno⟩; obtain rfl : rb = false := (by
          cases rb with
          | false => rfl
          | true => obtain ⟨E, -, hOk⟩ := hyes rfl; exact absurd ⟨E, hOk⟩ HNE.out); have HNo := Lib.hid (hno rfl); have HGW := Lib.hid (HKG.out w5 hkp); clear hfw hkp hyes hno)
      | fail)
    exact hR3.out _ HEC.out HVV.out (firstSol_no hvn HOK0.out (HCO.out ▸ HNo.out)) HGW.out
  obtain ⟨E, hE⟩ := hE
  have HE := Lib.hid hE
  clear hE
  have HFin := Lib.hid (firstSol_red hvn HND0.out HOK0.out (HCO.out ▸ HE.out))
  go_upto_region 9 with (first
    | (go_at_call 32; refine Hal.out.mono ?_; rintro e3 w4 ⟨va, rfl, hown, hg3⟩; obtain ⟨pa, ca, rfl, hrd⟩ := reduceAll HFO.out HFW.out HEW.out hown hg3; have Hrd := Lib.hid hrd; clear hown hg3 hrd)
    | (go_at_call 31; refine Hrd.out.mono ?_; rintro e4 w5 ⟨rb, rfl, hfw, hkp, hyes, hno⟩; obtain rfl : rb = true := (by
        cases rb with
        | true => rfl
        | false => exact (RedOk.not HE.out (hno rfl)).elim); obtain ⟨E3, hEW3, hOk3⟩ := hyes rfl; obtain rfl := (RedOk.uniq HND0.out hOk3 HE.out).symm; have HEW5 := Lib.hid hEW3; have HFW5 := Lib.hid hfw; have HGW5 := Lib.hid (HKG.out w5 hkp); clear hfw hkp hyes hno hEW3 hOk3)
    | fail)
  have hEN : E.length = F.N := HEW5.out.len
  have HEN := Lib.hid hEN
  have hNv : vn < F.N := by rw [HFN.out]; exact hvn
  have HOKE : Hid (∀ c ∈ F.cons, c.ok E.length = true) := fun c hc => by rw [HE.out.sub.1]; exact HOK0.out c (HCO.out ▸ hc)
  have HNDE : Hid (∀ d ∈ E, d.Nodup) := sub_nodup HE.out.sub HND0.out
  rw [← HCO.out] at HFin hR3 hR4 HEC
  obtain ⟨fs, hfs⟩ : ∃ fs, firstSol F.cons x.D vn (x.D.getD vn []) = fs := ⟨_, rfl⟩
  rw [hfs] at HFin hR3 hR4
  clear hfs
  obtain ⟨dp, dc, -, -, ep2, -, hd1, hd2, hd3⟩ := HEW5.out.cells
  obtain ⟨xs0, hxl0, hxc0, -, hxr0⟩ := HEW5.out.xs (by omega)
  obtain ⟨d, hd⟩ : ∃ d, E[vn]? = some d := ⟨_, List.getElem?_eq_getElem (by omega)⟩
  obtain ⟨q, cq, h1, h2⟩ := hxr0 vn d hd
  have c0 := hxc0 vn _ h1
  rw [Nat.zero_add] at c0
  have hdp := hd3 (by omega)
  subst hdp
  rw [hEN] at ep2 hd1
  have HOW := Lib.hid h2
  have HD := Lib.hid hd
  have HNR := Lib.hid (HEW5.out.near d (List.mem_of_getElem? hd))
  have hsl := (h2.sl fun y hy => (HNR.out y hy).in64).2
  have hdl := hsl.1
  have hdc := hsl.2.1
  rw [show E.getD vn [] = d by rw [List.getD_eq_getElem?_getD, hd]; rfl] at HFin
  have hvnI : (vn : Int) < (F.N : Int) := by omega
  clear hxl0 hxc0 hxr0 h1 h2 hd hsl hd3 hEN
  go_upto_region 10 with fail
  clear ep2 c0
  go_loopg [42] d.length (fun k iv wr => ∃ m : Nat, m ≤ d.length ∧ k = d.length - m ∧ iv = .int .i64 ((m : Nat) : Int) ∧ Hid (firstSol F.cons E vn (d.drop m) = fs) ∧ Hid (FamW F w1 wr) ∧ Hid (Kp (TurnI w1.heap.size w5) w5 wr))
  case atStart => exact ⟨0, Nat.zero_le _, rfl, rfl, HFin, HFW5, Kp.refl _ _⟩
  case round =>
    obtain ⟨m, hm, rfl, rfl, hfd, hfw, hkw⟩ := hrel
    have HGr : Hid (∀ {W : World}, Kp (TurnI w1.heap.size w5) w5 W → Gr w W) := fun {W} hk => Below.trans HGW5.out (hk.below (fun b hb => by have := hb.2; have := H1S.out; omega) HGW5.out.size)
    have HMr : Hid (∀ {W : World}, Kp (TurnI w1.heap.size wr) wr W → Kp (TurnI w1.heap.size w5) w5 W) := fun {W} hk => hkw.out.more hk fun b hb hc => by
      by_cases hb2 : TurnI w1.heap.size w5 b
      · exact hb2
      · refine ⟨?_, hc.2⟩
        obtain ⟨c, hc⟩ := hc.1
        exact ⟨c, (hkw.out.block b hb hb2).symm.trans hc⟩
    by_cases hmd : m < d.length
    case neg =>
      obtain rfl : m = d.length := by omega
      have hf := hfd.out
      rw [List.drop_length, firstSol] at hf
      subst hf
      go_wp2_with fail
      exact hR3.out _ HEC.out HVV.out (by first | rfl | trivial) (HGr.out hkw.out)
    obtain ⟨y, hy⟩ : ∃ y, d[m]? = some y := ⟨_, List.getElem?_eq_getElem hmd⟩
    have hslr := ((show IntsOwn wr w1.heap.size (.slice q d.length cq) d from ownsRow_kp HOW.out hkw.out fun g hg hc => hc.1.not (by decide) (ownsRow_type HOW.out hg).1).sl fun y hy => (HNR.out y hy).in64).2
    obtain ⟨b3, o3, hqe, _, hr3⟩ := hslr.ptr (by omega)
    subst hqe
    have y0 := hr3 m y hy
    have HYN := Lib.hid (HNR.out y (List.mem_of_getElem? hy))
    have HDR := Lib.hid (show d.drop m = y :: d.drop (m + 1) by
      rw [List.drop_eq_getElem_cons hmd]
      have := (List.getElem?_eq_some_iff.1 hy).2
      rw [this])
    rw [HDR.out] at hfd
    have HWE : Hid (EngW F w1 e dB E wr) := HEW5.out.turn (T := fun _ => False) (fun _ h => h.elim) id (hkw.out.mono fun b hb => .inr hb)
    have HWF := hfw
    obtain ⟨xs, hxl, hxc, hx1, hxr⟩ := HWE.out.xs (by rw [HEN.out]; omega)
    obtain ⟨dp2, dc2, e0, e1, e2, e3, hc1, hc2, hc3⟩ := HWE.out.cells
    have hdp2 := hc3 (by rw [HEN.out]; omega)
    subst hdp2
    obtain ⟨pp, pn, pcc, hP0⟩ := HFO.out.p0
    have HP0 := Lib.hid hP0
    rw [hP0] at e0
    rw [HEN.out] at hxl e2 hc1
    have Hcl : Hid (∀ W, Gr wr W → Calls Try.prog 39 #[.slice (some ⟨dB, 0, none⟩) F.N dc2] W (RetRows xs W)) := fun W hW => by
      have h := cloneRows_calls dB 0 dc2 xs W (by omega) ⟨by omega, hc2⟩ (by have := HFEW.out; have := HFN.out; omega) (fun i u hu => hW.at (hxc i u hu)) hx1
      rw [hxl] at h
      exact h
    have HXL := Lib.hid hxl
    have HXR := Lib.hid hxr
    clear hslr hr3 hy hxl hxc hx1 hxr hc1 hc2 hc3 hP0
    go_upto_region 12 with fail
    clear y0
    refine wp_region_rely_tail 15 [fx (.pointer (some ⟨e, 0, none⟩)), fx (.pointer (some ⟨e, 0, none⟩)), fx (.pointer (some ⟨e, 0, none⟩)), fx (.agg #[.slice pp pn pcc, .slice F.pc F.C.length F.cc]), fx (.pointer (some ⟨e, 0, none⟩)), fx (.pointer (some ⟨e, 0, none⟩)), fx (.pointer (some ⟨e, 2, none⟩)), fx (.slice (some ⟨dB, 0, none⟩) F.N dc2), clV wr.heap.size F.N xs, fx (.pointer (some ⟨e, 0, none⟩)), fx (.pointer (some ⟨e, 0, none⟩)), fx (.pointer (some ⟨e, 3, none⟩)), fx (.slice (some ⟨F.uB, 0, none⟩) F.N F.uc), egV wr.heap.size F.N (.slice pp pn pcc) (.slice F.pc F.C.length F.cc) (.slice (some ⟨F.uB, 0, none⟩) F.N F.uc) xs, egP wr.heap.size F.N (.slice pp pn pcc) (.slice F.pc F.C.length F.cc) (.slice (some ⟨F.uB, 0, none⟩) F.N F.uc) xs]
      (by kernel_rfl) (by kernel_rfl) (by decide) (by repeat (first | exact Stable.nil | refine Stable.fix ?_ | refine Stable.cons clV_stable ?_ | refine Stable.cons egV_stable ?_ | refine Stable.cons egP_stable ?_)) ?_ ?_
    · refine ⟨?_, ?_, ?_, ?_, ?_, ?_, ?_, ?_, ?a8, ?_, ?_, ?_, ?_, ?a13, ?a14, trivial⟩
      case a8 =>
        intro fr wz hg hold
        have h0 : fr.tmps[8]?.getD undef = .pointer (some ⟨e, 0, none⟩) := hold 8 rfl
        clear hold
        have q0 := Gr.at hg e0
        have q1 := Gr.at hg e1
        have q2 := Gr.at hg e2
        have q3 := Gr.at hg e3
        simp [predsImp, Region.binds, dstAt, fx]
        intros
        rename_i K hK
        go_simp
        refine (Hcl.out wz hg).mono ?_
        rintro e5 w9 ⟨g, c, cells, rfl, k1, k2, k3, k4, k5, k6⟩
        rw [HXL.out] at k5 ⊢
        exact hK _ _ ⟨g, c, rfl, Nat.le_trans hg.size k3, ⟨k5, k6⟩, cells, k1, k2⟩ k4
      case a13 =>
        intro fr wz hg hold
        have h0 : fr.tmps[8]?.getD undef = .pointer (some ⟨e, 0, none⟩) := hold 8 rfl
        clear hold
        have q0 := Gr.at hg e0
        have q1 := Gr.at hg e1
        have q2 := Gr.at hg e2
        have q3 := Gr.at hg e3
        simp [predsImp, Region.binds, dstAt, fx]
        intro hA hB hC
        obtain ⟨g, c, hv59, hnr⟩ := hB
        intros
        rename_i K hK
        go_simp
        exact hK _ _ ⟨g, c, rfl, hnr⟩ (Gr.rfl' _)
      case a14 =>
        intro fr wz hg hold
        have h0 : fr.tmps[8]?.getD undef = .pointer (some ⟨e, 0, none⟩) := hold 8 rfl
        clear hold
        have q0 := Gr.at hg e0
        have q1 := Gr.at hg e1
        have q2 := Gr.at hg e2
        have q3 := Gr.at hg e3
        simp [predsImp, Region.binds, dstAt]
        intro hA
        obtain ⟨g, c, hv64, hnr⟩ := hA
        intros
        rename_i K hK
        go_simp
        exact hK _ _ ⟨_, g, c, rfl, hg.size, hnr.gr (by go_grown), BlkT.new _ _ _⟩ (by go_grown)
      all_goals
        intro fr wz hg hold
        have h0 : fr.tmps[8]?.getD undef = .pointer (some ⟨e, 0, none⟩) := hold 8 rfl
        clear hold
        have q0 := Gr.at hg e0
        have q1 := Gr.at hg e1
        have q2 := Gr.at hg e2
        have q3 := Gr.at hg e3
        simp [predsImp, Region.binds, dstAt, fx]
        intros
        first
          | (rw [if_pos (by simp [*])]
             intro K hK)
          | (rename_i K hK)
        go_simp
      all_goals exact hK _ _ rfl (Gr.rfl' _)
    · intro wz hg
      rintro _ rfl _ rfl _ rfl _ rfl _ rfl _ rfl _ rfl _ rfl _ - _ rfl _ rfl _ rfl _ rfl _ - _ ⟨e2', g, c, rfl, he2, hnr, hbe⟩
      simp only [finAll, Act.put, List.setIfInBounds_toArray, List.set_cons_succ, List.set_cons_zero, List.drop_succ_cons, List.drop_zero, List.take_zero]
      clear e0 e1 e2 e3
      have h0s : w1.heap.size ≤ wr.heap.size := HWF.out.gr.size
      have hnew : EngW F w1 e2' g E wz := NewRows.eng HWE.out hg HXR.out (by rw [HEN.out]; exact hnr) h0s he2 (by rw [HP0.out, HEN.out]; exact hbe)
      have hgge := hnr.ge
      obtain ⟨cells, hcb, hcs⟩ := hnr.blk
      have ga : Gr wz (wz.alloc (.cells #[.int .i64 y] 2)) := by go_grown
      have k2 := hbe.cell 2 (v := .slice (some ⟨g, 0, none⟩) F.N c) rfl
      have hcb1 := hcb.gr ga
      obtain ⟨qv, cv, hxv, -⟩ := HXR.out vn d HD.out
      have z0 := hcb1.cell vn (hcs vn _ hxv)
      have zf := hcb1.open_ vn
      have hnew1 : EngW F w1 e2' g (E.set vn [y]) ((wz.alloc (.cells #[.int .i64 y] 2)).setCell ⟨g, vn, none⟩ (.slice (some ⟨wz.heap.size, 0, none⟩) 1 1)) :=
        (hnew.gr ga).store (by rw [HEN.out]; exact hNv) (ints_one wz _ (Nat.le_trans h0s hg.size) y) (fun z hz => by rw [List.mem_singleton.1 hz]; exact HYN.out) (by simp)
      have hk1 : Kp (· = g) (wz.alloc (.cells #[.int .i64 y] 2)) ((wz.alloc (.cells #[.int .i64 y] 2)).setCell ⟨g, vn, none⟩ (.slice (some ⟨wz.heap.size, 0, none⟩) 1 1)) := Kp.set rfl
      have hg1 : Gr wr ((wz.alloc (.cells #[.int .i64 y] 2)).setCell ⟨g, vn, none⟩ (.slice (some ⟨wz.heap.size, 0, none⟩) 1 1)) := Below.trans (hg.trans ga) (hk1.below (fun b hb => by rw [hb]; exact hgge) (hg.trans ga).size)
      have HNE := Lib.hid hnew1
      have HG1' := Lib.hid hg1
      have HGGE := Lib.hid hgge
      have HGLT : Hid (g < ((wz.alloc (.cells #[.int .i64 y] 2)).setCell ⟨g, vn, none⟩ (.slice (some ⟨wz.heap.size, 0, none⟩) 1 1)).heap.size) := Nat.lt_of_lt_of_le hcb1.lt hk1.size
      clear hnew hnew1 hk1 hg1 hcs hcb hcb1 hbe ga hnr hxv h0s hgge he2
      go_upto_region 14 with fail
      clear k2 z0 zf
      generalize (wz.alloc (.cells #[.int .i64 y] 2)).setCell ⟨g, vn, none⟩ (.slice (some ⟨wz.heap.size, 0, none⟩) 1 1) = wS at *
      clear hg
      go_upto_region 15 with fail
      have hBB := BlkT.new wS 38 #[.slice none 0 0]
      have gB : Gr wS (wS.alloc (.cells #[.slice none 0 0] 38)) := by go_grown
      obtain ⟨bb, hbb⟩ : ∃ bb, wS.heap.size = bb := ⟨_, rfl⟩
      have HBBE := Lib.hid hbb
      rw [hbb] at hBB ⊢
      clear hbb
      generalize wS.alloc (.cells #[.slice none 0 0] 38) = wT at *
      have HBB := Lib.hid hBB
      have HGT := Lib.hid (HG1'.out.trans gB)
      have HNT := Lib.hid (HNE.out.gr gB)
      clear hBB gB
      have hfS := HWF.out.gr' HGT.out
      obtain ⟨u, hu⟩ : ∃ u, F.U[vn]? = some u := ⟨_, List.getElem?_eq_getElem (by rw [HFO.out.uses.1]; exact hNv)⟩
      have hgu : F.U.getD vn [] = u := by rw [List.getD_eq_getElem?_getD, hu]; rfl
      obtain ⟨hnd, hmem⟩ := HFO.out.uses.2 vn hNv
      rw [hgu] at hnd hmem
      have hval : ∀ k ∈ u, 0 ≤ k ∧ k < (F.C.length : Int) := fun k hk => by
        obtain ⟨h0, x, hx, _⟩ := (hmem k).1 hk
        have := (List.getElem?_eq_some_iff.1 hx).1
        rw [Fam.cons, List.length_map] at this
        exact ⟨h0, by omega⟩
      obtain ⟨pu, cu, hvv, htd⟩ := TodoM.shared HFO.out hfS hu (fun k hk => by have := hval k hk; have := HFO.out.few; exact ⟨by omega, by omega⟩)
      obtain ⟨ucells, hub, hus⟩ := hfS.blk
      have u0 := hub.cell vn (hus vn _ hvv)
      have Hrd := Lib.hid (reduce_calls F w1 e2' g (E.set vn [y]) pu cu u wT HFO.out hfS HNT.out htd hnd hval (fun k x hk hn => cst_set HOKE.out HE.out.ac (by rw [HEN.out]; exact HFO.out.uses) (by rw [HEN.out]; exact hNv) k x hk (by rw [hgu]; exact hn)))
      obtain ⟨dp3, dc3, -, -, -, e3, -, -, -⟩ := (HWE.out.gr HGT.out).cells
      have HMU : Hid (∀ W, Kp (MutR F g pu) wT W → Kp (TurnI w1.heap.size wr) wr W ∧ TellB w1 F.N bb none (fun b => b = bb) W) := fun W hk => by
        have hbbn : ¬ MutR F g pu bb := fun hc => by
          have hubi : F.UB bb → OfT wT bb 3 := fun ⟨u, hu, hub⟩ => by
            obtain ⟨i, hi⟩ := List.getElem?_of_mem hu
            obtain ⟨y, hy⟩ : ∃ y, F.U[i]? = some y := ⟨_, List.getElem?_eq_getElem (by rw [← HFO.out.lenU]; exact (List.getElem?_eq_some_iff.1 hi).1)⟩
            exact (ownsRow_type (hfS.own i u y hi hy) hub).1
          rcases hc with hc | hc | ⟨a, ha, hc⟩
          · have := HGLT.out; have := HBBE.out; omega
          · exact (hubi hc).not (by decide) (.of HBB.out)
          · exact (hubi ⟨_, List.mem_of_getElem? hvv, by rw [ha]; exact congrArg some hc⟩).not (by decide) (.of HBB.out)
        refine ⟨(Kp.of_gr (C := TurnI w1.heap.size wr) HGT.out).more hk fun b hb hc => mutR_int HFO.out HWF.out HGGE.out hvv b hb hc, ⟨⟨_, HBB.out.kp hk hbbn, fun _ => rfl, fun s hs => by cases hs⟩, fun b => Iff.rfl, by have := HBBE.out; have := HG1'.out.size; have := HWF.out.gr.size; omega⟩⟩
      clear hu hgu hnd hmem hval htd hub hus
      by_cases hE2 : ∃ E2, RedOk F.cons (E.set vn [y]) E2
      case neg =>
        have HNO := Lib.hid hE2
        clear hE2 hvv hfS
        go_wp2_with (first
          | (go_at_call 31; refine Hrd.out.mono ?_; rintro e4 w6 ⟨rb, rfl, hfw6, hkp, hyes, hno⟩; obtain rfl : rb = false := (by
              cases rb with
              | false => rfl
              | true => obtain ⟨E2, -, hOk⟩ := hyes rfl; exact absurd ⟨E2, hOk⟩ HNO.out); obtain ⟨hk6, ht6⟩ := HMU.out w6 hkp; have HK6 := Lib.hid (HMr.out hk6); have HF6 := Lib.hid hfw6; obtain ⟨ov, hb6, hov, -⟩ := ht6.row; obtain rfl := hov rfl; have o0 := hb6.cell 0 (v := .slice none 0 0) rfl; have HNil := Lib.hid (RedNo.sols (D := E.set vn [y]) (fun c hc => by rw [List.length_set]; exact HOKE.out c hc) (hno rfl)); clear hfw6 hkp hyes hno hk6 ht6 hb6 hov u0 e3)
          | fail)
        go_roundg (d.length - (m + 1))
        case measure => omega
        case rel => exact ⟨m + 1, by omega, rfl, by go_num, by show _ = _; rw [← firstSol_nil HNil.out]; exact hfd.out, HF6, HK6⟩
      obtain ⟨E2, hE2⟩ := hE2
      have HE2 := Lib.hid hE2
      have HNDs : Hid (∀ d ∈ E.set vn [y], d.Nodup) := set_nodup HNDE.out
      have HOKs : Hid (∀ c ∈ F.cons, c.ok (E.set vn [y]).length = true) := fun c hc => by rw [List.length_set]; exact HOKE.out c hc
      have HSol := Lib.hid (RedOk.sols HNDs.out HOKs.out HE2.out)
      have HLb : Hid (∀ W, FamW F w1 W → Kp (MutR F g pu) wT W → EngW F w1 e2' g E2 W → Calls Try.prog 34 #[.pointer (some ⟨e2', 0, none⟩), .int .i64 0, .func (.func 40) #[] #[.pointer (some ⟨bb, 0, none⟩)]] W fun en w' => ∃ b ov, en = .returned (.bool b) ∧ FamW F w1 w' ∧ Kp (TurnI w1.heap.size w5) w5 w' ∧ BlkT w' bb 38 #[ov] ∧ ((sols F.cons (E.set vn [y])).head? = none → ov = .slice none 0 0) ∧ ∀ s, (sols F.cons (E.set vn [y])).head? = some s → IntsOwn w' w1.heap.size ov s ∧ s.length = F.N ∧ ∀ y ∈ s, Near y) := fun W hf hk he => by
        obtain ⟨hk6, ht6⟩ := HMU.out W hk
        have hl := label_calls (bestE F w1 bb) (bestE_ok HFO.out) e2' g E2 (fun b => b = bb) none W trivial ht6 hf he (fun h => by have := HGLT.out; have := HBBE.out; omega) (Ready.start HOKs.out HNDs.out HE2.out)
        refine Calls.mono (show Calls Try.prog 34 #[.pointer (some ⟨e2', 0, none⟩), .int .i64 0, .func (.func 40) #[] #[.pointer (some ⟨bb, 0, none⟩)]] W _ from hl) ?_
        rintro en w' ⟨h1, h2⟩
        have hfd2 : (feedS (bestE F w1 bb).step none (sols (bestE F w1 bb).F.cons E2)).1 = (sols F.cons (E.set vn [y])).head? := (feedS_best _).trans (by rw [← HSol.out]; rfl)
        rw [hfd2] at h2
        obtain ⟨T', h3, -⟩ := h2.st
        have h3 : TellB w1 F.N bb ((sols F.cons (E.set vn [y])).head?) T' w' := h3
        obtain ⟨ov, h4, h5, h6⟩ := h3.row
        refine ⟨_, ov, h1, h2.fam, HMr.out (hk6.more h2.kp fun b hb hc => ?_), h4, h5, h6⟩
        by_cases hb2 : TurnI w1.heap.size wr b
        · exact hb2
        rcases hc with hc | hc
        · exfalso
          have hc : b = bb := hc
          have := HBBE.out
          have := HG1'.out.size
          omega
        · refine ⟨?_, hc.2⟩
          obtain ⟨c, hc⟩ := hc.1
          exact ⟨c, (hk6.block b hb hb2).symm.trans hc⟩
      clear hE2 hvv hfS HMU
      cases hhd : sols F.cons (E.set vn [y]) with
      | nil =>
        have HNil := Lib.hid hhd
        rw [hhd] at HLb
        clear hhd
        go_wp2_with (first
          | (go_at_call 31; refine Hrd.out.mono ?_; rintro e4 w6 ⟨rb, rfl, hfw6, hkp, hyes, hno⟩; obtain rfl : rb = true := (by
              cases rb with
              | true => rfl
              | false => exact (RedOk.not HE2.out (hno rfl)).elim); obtain ⟨E3, hEW3, hOk3⟩ := hyes rfl; obtain rfl := RedOk.uniq HNDs.out hOk3 HE2.out; have Hl := Lib.hid (HLb.out w6 hfw6 hkp hEW3); clear hfw6 hkp hyes hno hEW3 hOk3 u0 e3)
          | (go_at_call 34; refine Hl.out.mono ?_; rintro e5 w7 ⟨b7, ov, rfl, h6, h7, h8, h9, -⟩; obtain rfl := h9 rfl; have o0 := h8.cell 0 (v := .slice none 0 0) rfl; have HF6 := Lib.hid h6; have HK6 := Lib.hid h7; clear h6 h7 h8 h9)
          | fail)
        go_roundg (d.length - (m + 1))
        case measure => omega
        case rel => exact ⟨m + 1, by omega, rfl, by go_num, by show _ = _; rw [← firstSol_nil HNil.out]; exact hfd.out, HF6, HK6⟩
      | cons s l =>
        have HCons := Lib.hid hhd
        rw [hhd] at HLb
        clear hhd
        have hfs : fs = some s := by rw [← hfd.out, firstSol_hit HCons.out]
        subst hfs
        have HR4 := Lib.hid (hR4.out s)
        clear hfd hR4 hR3
        go_wp2_with (first
          | (go_at_call 31; refine Hrd.out.mono ?_; rintro e4 w6 ⟨rb, rfl, hfw6, hkp, hyes, hno⟩; obtain rfl : rb = true := (by
              cases rb with
              | true => rfl
              | false => exact (RedOk.not HE2.out (hno rfl)).elim); obtain ⟨E3, hEW3, hOk3⟩ := hyes rfl; obtain rfl := RedOk.uniq HNDs.out hOk3 HE2.out; have Hl := Lib.hid (HLb.out w6 hfw6 hkp hEW3); clear hfw6 hkp hyes hno hEW3 hOk3 u0 e3)
          | (go_at_call 34; refine Hl.out.mono ?_; rintro e5 w7 ⟨b7, ov, rfl, h6, h7, h8, -, h9⟩; obtain ⟨h10, h11, h12⟩ := h9 s rfl; obtain ⟨ps, cs, rfl⟩ := h10.form; obtain ⟨bs, os, rfl, -, -⟩ := ((h10.sl fun y hy => (h12 y hy).in64).2).ptr (by omega); have o0 := h8.cell 0 (v := .slice (some ⟨bs, os, none⟩) s.length cs) rfl; have HFN2 := Lib.hid (HR4.out _ cs w7 HEC.out HVV.out (by first | rfl | trivial) (ownsRow_base h10 H1S.out) h12 (HGr.out h7)); clear h6 h7 h8 h9 h10 h11 h12)
          | fail)
        exact HFN2.out
end Go.Proofs.Ytbapmokbkjmdcaa
