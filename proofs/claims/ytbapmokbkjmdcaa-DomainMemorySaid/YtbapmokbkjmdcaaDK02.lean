/-
  (*engine).label: the walk.
  domain.Solve: what is told; the function that keeps it.
-/
import Derived.Test.YtbapmokbkjmdcaaDK01
namespace Go.Proofs.Ytbapmokbkjmdcaa
open Go.RowKit Go.Maps Go.Lib
variable {α : Type}

/-- An engine's rows, as values. -/
theorem EngW.xs {F : Fam} {w0 : World} {e dB : Nat} {D : List (List Int)} {w : World} (h : EngW F w0 e dB D w) (h0 : 0 < D.length) : ∃ xs : List Value, xs.length = D.length ∧ (∀ (i : Nat) (u : Value), xs[i]? = some u → w.cell? ⟨dB, 0 + i, none⟩ = some u) ∧ (∀ u ∈ xs, u.oneCell' = true) ∧
    ∀ (i : Nat) (d : List Int), D[i]? = some d → ∃ q c, xs[i]? = some (.slice q d.length c) ∧ IntsOwn w w0.heap.size (.slice q d.length c) d := by
  obtain ⟨vs, k1, k2⟩ := h.row h0
  have hsz : D.length ≤ vs.size := by
    obtain ⟨u, h1, _⟩ := k2 (D.length - 1) _ (List.getElem?_eq_getElem (by omega))
    have := (Array.getElem?_eq_some_iff.1 h1).1
    omega
  have hat : ∀ (i : Nat), i < D.length → (vs.toList.take D.length)[i]? = vs[i]? := fun i hi => by
    rw [List.getElem?_take_of_lt hi, Array.getElem?_toList]
  have hl : (vs.toList.take D.length).length = D.length := by rw [List.length_take, Array.length_toList]; exact Nat.min_eq_left hsz
  have hrow : ∀ (i : Nat) (d : List Int), D[i]? = some d → ∃ q c, (vs.toList.take D.length)[i]? = some (.slice q d.length c) ∧ IntsOwn w w0.heap.size (.slice q d.length c) d := fun i d hd => by
    obtain ⟨u, h1, h2⟩ := k2 i d hd
    obtain ⟨q, c, rfl⟩ := h2.form
    exact ⟨q, c, by rw [hat i (List.getElem?_eq_some_iff.1 hd).1]; exact h1, h2⟩
  refine ⟨vs.toList.take D.length, hl, fun i u hu => ?_, fun u hu => ?_, hrow⟩
  · have hi : i < D.length := by have := (List.getElem?_eq_some_iff.1 hu).1; omega
    rw [hat i hi] at hu
    rw [Nat.zero_add]; exact k1.cell i hu
  · obtain ⟨i, hi⟩ := List.getElem?_of_mem hu
    have hil : i < D.length := by have := (List.getElem?_eq_some_iff.1 hi).1; omega
    obtain ⟨q, c, h1, _⟩ := hrow i _ (List.getElem?_eq_getElem hil)
    rw [hi] at h1
    cases h1
    cases q <;> rfl
theorem ints_one (w : World) (B : Nat) (hB : B ≤ w.heap.size) (y : Int) : IntsOwn (w.alloc (.cells #[.int .i64 y] 2)) B (.slice (some ⟨w.heap.size, 0, none⟩) 1 1) [y] :=
  ⟨rfl, .inr ⟨w.heap.size, 1, #[.int .i64 y], rfl, hB, heap_alloc_new _ _, Nat.le_refl _, by decide, rfl, rfl⟩⟩
/-- A row of rows that is new. -/
structure NewRows (B0 n : Nat) (xs : List Value) (g c : Nat) (w : World) : Prop where
  ge : B0 ≤ g
  cap : n ≤ c ∧ c ≤ 9223372036854775807
  blk : ∃ cells : Array Value, BlkT w g 38 cells ∧ ∀ (i : Nat) (u : Value), xs[i]? = some u → cells[i]? = some u
theorem NewRows.gr {B0 n : Nat} {xs : List Value} {g c : Nat} {w w' : World} (h : NewRows B0 n xs g c w) (hg : Gr w w') : NewRows B0 n xs g c w' := by
  obtain ⟨cells, h1, h2⟩ := h.blk
  exact ⟨h.ge, h.cap, cells, h1.gr hg, h2⟩
def clV (B0 n : Nat) (xs : List Value) : VP := fun v w => ∃ g c, v = .slice (some ⟨g, 0, none⟩) n c ∧ NewRows B0 n xs g c w
theorem clV_stable {B0 n : Nat} {xs : List Value} : ∀ v w w', clV B0 n xs v w → Gr w w' → clV B0 n xs v w' := fun _ _ _ ⟨g, c, h1, h2⟩ hg => ⟨g, c, h1, h2.gr hg⟩
def egV (B0 n : Nat) (p0 p1 us : Value) (xs : List Value) : VP := fun v w => ∃ g c, v = .agg #[p0, p1, .slice (some ⟨g, 0, none⟩) n c, us] ∧ NewRows B0 n xs g c w
theorem egV_stable {B0 n : Nat} {p0 p1 us : Value} {xs : List Value} : ∀ v w w', egV B0 n p0 p1 us xs v w → Gr w w' → egV B0 n p0 p1 us xs v w' := fun _ _ _ ⟨g, c, h1, h2⟩ hg => ⟨g, c, h1, h2.gr hg⟩
def egP (B0 n : Nat) (p0 p1 us : Value) (xs : List Value) : VP := fun v w => ∃ e g c, v = .pointer (some ⟨e, 0, none⟩) ∧ B0 ≤ e ∧ NewRows B0 n xs g c w ∧ BlkT w e 63 #[p0, p1, .slice (some ⟨g, 0, none⟩) n c, us]
theorem egP_stable {B0 n : Nat} {p0 p1 us : Value} {xs : List Value} : ∀ v w w', egP B0 n p0 p1 us xs v w → Gr w w' → egP B0 n p0 p1 us xs v w' := fun _ _ _ ⟨e, g, c, h1, h2, h3, h4⟩ hg => ⟨e, g, c, h1, h2, h3.gr hg, h4.gr hg⟩
/-- The new engine. -/
theorem NewRows.eng {F : Fam} {w0 w wz : World} {e dB e2 g c : Nat} {D : List (List Int)} {xs : List Value} (he : EngW F w0 e dB D w) (hg : Gr w wz) (hxs : ∀ (i : Nat) (d : List Int), D[i]? = some d → ∃ q c, xs[i]? = some (.slice q d.length c) ∧ IntsOwn w w0.heap.size (.slice q d.length c) d)
    (h : NewRows w.heap.size D.length xs g c wz) (h0 : w0.heap.size ≤ w.heap.size) (h2 : w.heap.size ≤ e2) (hb : BlkT wz e2 63 #[F.P0, .slice F.pc F.C.length F.cc, .slice (some ⟨g, 0, none⟩) D.length c, .slice (some ⟨F.uB, 0, none⟩) F.N F.uc]) : EngW F w0 e2 g D wz := by
  obtain ⟨cells, k1, k2⟩ := h.blk
  refine ⟨⟨_, c, hb, h.cap.1, h.cap.2, fun _ => rfl⟩, he.len, fun _ => ⟨cells, k1, fun i d hd => ?_⟩, he.near, he.short, Nat.le_trans h0 h2, Nat.le_trans h0 h.ge⟩
  obtain ⟨q, cq, h3, h4⟩ := hxs i d hd
  exact ⟨_, k2 i _ h3, h4.gr hg⟩
/-- What reduce may turn of what was there. -/
theorem mutR_int {F : Fam} {w0 w : World} (hF : FamOk F w0) (hw : FamW F w0 w) {g v : Nat} {p : Option Addr} {n c : Nat} (hg : w.heap.size ≤ g) (hv : F.vv[v]? = some (.slice p n c)) : ∀ b, b < w.heap.size → MutR F g p b → TurnI w0.heap.size w b := by
  intro b hb h
  have hub : F.UB b → TurnI w0.heap.size w b := fun ⟨u, hu, hub⟩ => by
    obtain ⟨i, hi⟩ := List.getElem?_of_mem hu
    obtain ⟨y, hy⟩ : ∃ y, F.U[i]? = some y := ⟨_, List.getElem?_eq_getElem (by rw [← hF.lenU]; exact (List.getElem?_eq_some_iff.1 hi).1)⟩
    exact ownsRow_type (hw.own i u y hi hy) hub
  rcases h with rfl | h | ⟨a, rfl, rfl⟩
  · omega
  · exact hub h
  · exact hub ⟨_, List.mem_of_getElem? hv, rfl⟩

set_option maxHeartbeats 16000000 in
set_option maxRecDepth 100000 in
theorem label_step (E : LbE α) (hE : LbOk E) (r : Nat) (IH : E.upto r) : E.upto (r + 1) := by
  intro v e dB D T a w hv hr hlv0 hst hfam heng hTd hrd
  have hT : Hid (∀ b, T b → OfT w b 22 ∨ OfT w b 38) := fun b hb => (hE.typ _ _ _ _ hst hb).1
  have HW0 : Hid (LbW E e dB D T w a w) := LbW.start hst hfam heng
  have HST := Lib.hid hst
  have HLV := Lib.hid hlv0
  have HLiv : Hid (∀ L a', feedS E.step a L = (a', true) → E.live a') := fun L a' h => by
    have h1 := feedS_live hE.liv L a hlv0
    rw [h] at h1
    exact h1 rfl
  clear hlv0
  have HFAM := Lib.hid hfam
  have HENG := Lib.hid heng
  have HTD := Lib.hid hTd
  have HRD := Lib.hid hrd
  have HE := Lib.hid hE
  have HDN := Lib.hid (show D.length = E.F.N from heng.len)
  have hR : Hid (∀ fb a' w', feedS E.step a (sols E.F.cons D) = (a', fb) → LbW E e dB D T w a' w' → RetLb E e dB D T a w (.returned (.bool fb)) w') := fun fb a' w' h1 h2 => ⟨by rw [h1], by rw [h1]; exact h2⟩
  have HIH : Hid (∀ (v e dB : Nat) (D : List (List Int)) (T : Nat → Prop) (a : α) (w : World), v ≤ E.F.N → E.F.N - v < r → E.live a → E.st a T w → FamW E.F E.w0 w → EngW E.F E.w0 e dB D w → ¬ T dB → Ready E.F.cons D v →
    Calls Try.prog 34 #[.pointer (some ⟨e, 0, none⟩), .int .i64 v, .func (.func E.f) #[] E.cap] w (RetLb E e dB D T a w)) := IH
  generalize RetLb E e dB D T a w = Q at hR ⊢
  rw [show E.args e v = #[.pointer (some ⟨e, 0, none⟩), .int .i64 v, .func (.func E.f) #[] E.cap] from rfl]
  have hfew := hE.fam.fewN
  have hent := hE.enter
  obtain ⟨dp, dc, ep0, ep1, ep2, ep3, hd1, hd2, hd3⟩ := heng.cells
  have HD3 := Lib.hid hd3
  clear hst hfam heng hTd hrd hE IH hd3 ep0 ep1 ep3
  rw [HDN.out] at ep2 hd1
  by_cases hvn : v < E.F.N
  case neg =>
    obtain rfl : v = E.F.N := by omega
    go_enter Try.func34, Try.ntmps34
    try simp only [List.append_eq, List.cons_append, List.nil_append]
    go_upto_region 4 with fail
    clear ep2
    have HE0 : Hid (IntsOwn w w.heap.size (.slice none 0 0) ((D.take 0).map fun d => d.getD 0 0)) := IntsOwn.nil _ _
    go_loopg [7, 25] E.F.N (fun k ov iv wr => ∃ (j : Nat) (u : Value), j ≤ E.F.N ∧ k = E.F.N - j ∧ u = ov ∧ iv = .int .i64 ((j : Nat) : Int) ∧ Hid (IntsOwn wr w.heap.size u ((D.take j).map fun d => d.getD 0 0)) ∧ Hid (Gr w wr))
    case atStart => exact ⟨0, _, Nat.zero_le _, rfl, rfl, rfl, HE0, Gr.rfl' _⟩
    case round =>
      clear HE0
      obtain ⟨j, u, hj, rfl, rfl, rfl, ho, gr⟩ := hrel
      by_cases hlt : j < E.F.N
      · obtain ⟨xs, hxl, hxc, -, hxr⟩ := (HENG.out.gr gr.out).xs (by rw [HDN.out]; omega)
        obtain ⟨d, hd⟩ : ∃ d, D[j]? = some d := ⟨_, List.getElem?_eq_getElem (by rw [HDN.out]; exact hlt)⟩
        obtain ⟨q, cq, h1, h2⟩ := hxr j d hd
        have c0 := hxc j _ h1
        rw [Nat.zero_add] at c0
        obtain ⟨y, hy⟩ : ∃ y, d[0]? = some y := by
          cases d with
          | nil => exact absurd rfl (HRD.out.ne _ (List.mem_of_getElem? hd))
          | cons y l => exact ⟨y, rfl⟩
        have hdl : (0 : Int) < (d.length : Int) := by have := (List.getElem?_eq_some_iff.1 hy).1; omega
        have hsl := (h2.sl fun y hy => (HENG.out.near d (List.mem_of_getElem? hd) y hy).in64).2
        obtain ⟨b, o, rfl, _, hrr⟩ := hsl.ptr (List.getElem?_eq_some_iff.1 hy).1
        have y0 := hrr 0 y hy
        rw [Nat.add_zero] at y0
        have hdp := HD3.out (by rw [HDN.out]; omega)
        have HTK := Lib.hid (show (D.take (j + 1)).map (fun d => d.getD 0 0) = (D.take j).map (fun d => d.getD 0 0) ++ [y] by
          rw [List.take_add_one, hd, List.map_append]
          show _ ++ [d.getD 0 0] = _
          rw [List.getD_eq_getElem?_getD, hy]; rfl)
        obtain ⟨v', w', hrun, ho', hg', -, -⟩ := ints_push (w0 := w) y ho.out gr.out.size gr.out (Nat.le_refl _) (by rw [List.length_map, List.length_take]; omega)
        rw [← HTK.out] at ho'
        have HRN := Lib.hid hrun
        have HO := Lib.hid ho'
        have HGn := Lib.hid hg'
        subst hdp
        clear hrun ho' hg' h1 h2 hxl hxc hxr hd hy hsl hrr
        go_wp2_with (first
          | (at_builtin; refine wpList_append_run _ rfl _ _ _ _ rfl _ _ (by rfl) (by rfl) _ _ HRN.out ?_)
          | fail)
        go_roundg (E.F.N - (j + 1))
        case measure => omega
        case rel => exact ⟨j + 1, v', by omega, rfl, rfl, by go_num, HO, HGn⟩
      · obtain rfl : j = E.F.N := by omega
        have ho := ho.out
        rw [List.take_of_length_le (by rw [HDN.out]; exact Nat.le_refl _)] at ho
        have HSol := Lib.hid (show sols E.F.cons D = [D.map fun d => d.getD 0 0] from Ready.end_ (by rw [HDN.out]; exact HRD.out))
        have hlw : LbW E e dB D T w a wr := LbW.gr HE.out hT.out HTD.out HENG.out HW0.out gr.out
        obtain ⟨T1, hs1, hs2⟩ := hlw.st
        have Hc := Lib.hid (HE.out.call a T1 wr u (D.map fun d => d.getD 0 0) HLV.out hs1 (hlw.fam.gr) (show IntsOwn wr E.w0.heap.size u (D.map fun d => d.getD 0 0) from ownsRow_base (show wr.ownsRow w.heap.size 2 1 u (D.map fun d => d.getD 0 0).length ((D.map fun d => d.getD 0 0).map (Value.int .i64)) from ho) (HFAM.out.gr.size)) (by rw [List.length_map, HDN.out]) (fun y hy => by
          obtain ⟨d, hd, rfl⟩ := List.mem_map.1 hy
          cases d with
          | nil => exact absurd rfl (HRD.out.ne _ hd)
          | cons z l => exact HENG.out.near _ hd z (List.mem_cons_self ..)))
        obtain ⟨st, hstp⟩ : ∃ st, E.step a (D.map fun d => d.getD 0 0) = st := ⟨_, rfl⟩
        rw [hstp] at Hc
        have HFS := Lib.hid (show feedS E.step a (sols E.F.cons D) = st by rw [HSol.out, feedS_one, hstp])
        obtain ⟨a2, fb⟩ := st
        have HFin : Hid (∀ T' w', E.st a2 T' w' → Kp T1 wr w' → (∀ b, T' b → T1 b ∨ wr.heap.size ≤ b) → LbW E e dB D T w a2 w') := fun T' w' h1 h2 h3 => by
          have hty : ∀ b, T1 b → ((¬ OfT wr b 40 ∧ ¬ OfT wr b 3) ∧ E.w0.heap.size ≤ b) := fun b hb => by
            obtain ⟨k1, k2⟩ := HE.out.typ _ _ _ _ hs1 hb
            rcases k1 with k1 | k1
            · exact ⟨⟨k1.not (by decide), k1.not (by decide)⟩, k2⟩
            · exact ⟨⟨k1.not (by decide), k1.not (by decide)⟩, k2⟩
          have hkp : Kp (TurnL E.w0.heap.size T w) w w' := hlw.kp.more h2 fun b hb hc => (hs2 b hc).elim .inl fun h => by omega
          exact ⟨⟨T', h1, fun b hb => (h3 b hb).elim (hs2 b) fun h => .inr (by have := hlw.kp.size; omega)⟩, hlw.fam.kpG h2 hty, HENG.out.turn hT.out HTD.out hkp, hkp⟩
        clear hs1 hs2 hlw ho hstp HSol
        go_wp2_with (first
          | (refine Hc.out.mono ?_; rintro e1 w1 ⟨rfl, T', h1, h2, h3⟩; have HF2 := Lib.hid (HFin.out T' w1 h1 h2 h3); clear h1 h2 h3)
          | fail)
        exact hR.out _ _ _ HFS.out HF2.out
  obtain ⟨xs0, hxl0, hxc0, -, hxr0⟩ := HENG.out.xs (by rw [HDN.out]; omega)
  obtain ⟨d, hd⟩ : ∃ d, D[v]? = some d := ⟨_, List.getElem?_eq_getElem (by rw [HDN.out]; exact hvn)⟩
  obtain ⟨q, cq, h1, h2⟩ := hxr0 v d hd
  have c0 := hxc0 v _ h1
  rw [Nat.zero_add] at c0
  have hdp := HD3.out (by rw [HDN.out]; omega)
  subst hdp
  have HOW := Lib.hid h2
  have HD := Lib.hid hd
  have HNR := Lib.hid (HENG.out.near d (List.mem_of_getElem? hd))
  have hsl := (h2.sl fun y hy => (HNR.out y hy).in64).2
  have hdl := hsl.1
  have hdc := hsl.2.1
  have hgd : D.getD v [] = d := by rw [List.getD_eq_getElem?_getD, hd]; rfl
  have HLeaf := Lib.hid (show sols E.F.cons D = d.flatMap fun y => sols E.F.cons (D.set v [y]) by rw [HRD.out.at_ (by rw [HDN.out]; exact hvn), hgd])
  have hbv : ((v : Int) == (E.F.N : Int)) = false := beq_eq_false_iff_ne.2 (by omega)
  clear hxl0 hxc0 hxr0 h1 h2 hd hsl hgd
  go_enter Try.func34, Try.ntmps34
  try simp only [List.append_eq, List.cons_append, List.nil_append]
  go_upto_region 10 with fail
  clear ep2 c0 hbv
  go_loopg [47] d.length (fun k iv wr => ∃ (m : Nat) (a' : α), m ≤ d.length ∧ k = d.length - m ∧ iv = .int .i64 ((m : Nat) : Int) ∧ Hid (feedS E.step a ((d.take m).flatMap fun y => sols E.F.cons (D.set v [y])) = (a', true)) ∧ Hid (LbW E e dB D T w a' wr))
  case atStart => exact ⟨0, a, Nat.zero_le _, rfl, rfl, by show _ = _; rw [List.take_zero, List.flatMap_nil, feedS], HW0⟩
  case round =>
    clear HW0
    obtain ⟨m, a', hm, rfl, rfl, hfd, hlw⟩ := hrel
    by_cases hmd : m < d.length
    case neg =>
      obtain rfl : m = d.length := by omega
      have HF := Lib.hid (show feedS E.step a (sols E.F.cons D) = (a', true) by rw [HLeaf.out, ← hfd.out, List.take_length])
      clear hfd
      go_wp2_with fail
      exact hR.out _ _ _ HF.out hlw.out
    obtain ⟨y, hy⟩ : ∃ y, d[m]? = some y := ⟨_, List.getElem?_eq_getElem hmd⟩
    have hnt : ∀ g, OfT w g 2 → ¬ TurnL E.w0.heap.size T w g := fun g hg hc => by
      rcases hc with hc | hc
      · rcases hT.out g hc with h1 | h1
        · exact h1.not (by decide) hg
        · exact h1.not (by decide) hg
      · exact hc.1.not (by decide) hg
    have hslr := ((show IntsOwn wr E.w0.heap.size (.slice q d.length cq) d from ownsRow_kp HOW.out hlw.out.kp fun g hg => hnt g (ownsRow_type HOW.out hg).1).sl fun y hy => (HNR.out y hy).in64).2
    obtain ⟨b3, o3, hqe, _, hr3⟩ := hslr.ptr (by omega)
    subst hqe
    have y0 := hr3 m y hy
    have HYN := Lib.hid (HNR.out y (List.mem_of_getElem? hy))
    have HTK := Lib.hid (show (d.take (m + 1)).flatMap (fun y => sols E.F.cons (D.set v [y])) = (d.take m).flatMap (fun y => sols E.F.cons (D.set v [y])) ++ sols E.F.cons (D.set v [y]) by
      rw [List.take_add_one, hy, List.flatMap_append]; simp)
    have HDT := Lib.hid (show d = d.take (m + 1) ++ d.drop (m + 1) from (List.take_append_drop _ _).symm)
    obtain ⟨T1, hs1, hs2⟩ := hlw.out.st
    have HT1 : Hid (∀ b, T1 b → b < wr.heap.size) := fun b hb => ((HE.out.typ _ _ _ _ hs1 hb).1).elim OfT.lt OfT.lt
    have HS1 := Lib.hid hs1
    have HS2 := Lib.hid hs2
    have HWE := Lib.hid hlw.out.eng
    have HWF := Lib.hid hlw.out.fam
    obtain ⟨xs, hxl, hxc, hx1, hxr⟩ := HWE.out.xs (by rw [HDN.out]; omega)
    obtain ⟨dp2, dc2, e0, e1, e2, e3, hc1, hc2, hc3⟩ := HWE.out.cells
    have hdp2 := hc3 (by rw [HDN.out]; omega)
    subst hdp2
    obtain ⟨pp, pn, pcc, hP0⟩ := HE.out.fam.p0
    have HP0 := Lib.hid hP0
    rw [hP0] at e0
    rw [HDN.out] at hxl e2 hc1
    have Hcl : Hid (∀ W, Gr wr W → Calls Try.prog 39 #[.slice (some ⟨dB, 0, none⟩) E.F.N dc2] W (RetRows xs W)) := fun W hW => by
      have h := cloneRows_calls dB 0 dc2 xs W (by omega) ⟨by omega, hc2⟩ (by omega) (fun i u hu => hW.at (hxc i u hu)) hx1
      rw [hxl] at h
      exact h
    have HXL := Lib.hid hxl
    have HXR := Lib.hid hxr
    clear hslr hr3 hy hs1 hs2 hxl hxc hx1 hxr hnt hc1 hc2 hc3 hP0
    go_upto_region 12 with fail
    clear y0
    refine wp_region_rely_tail 15 [fx (.pointer (some ⟨e, 0, none⟩)), fx (.pointer (some ⟨e, 0, none⟩)), fx (.pointer (some ⟨e, 0, none⟩)), fx (.agg #[.slice pp pn pcc, .slice E.F.pc E.F.C.length E.F.cc]), fx (.pointer (some ⟨e, 0, none⟩)), fx (.pointer (some ⟨e, 0, none⟩)), fx (.pointer (some ⟨e, 2, none⟩)), fx (.slice (some ⟨dB, 0, none⟩) E.F.N dc2), clV wr.heap.size E.F.N xs, fx (.pointer (some ⟨e, 0, none⟩)), fx (.pointer (some ⟨e, 0, none⟩)), fx (.pointer (some ⟨e, 3, none⟩)), fx (.slice (some ⟨E.F.uB, 0, none⟩) E.F.N E.F.uc), egV wr.heap.size E.F.N (.slice pp pn pcc) (.slice E.F.pc E.F.C.length E.F.cc) (.slice (some ⟨E.F.uB, 0, none⟩) E.F.N E.F.uc) xs, egP wr.heap.size E.F.N (.slice pp pn pcc) (.slice E.F.pc E.F.C.length E.F.cc) (.slice (some ⟨E.F.uB, 0, none⟩) E.F.N E.F.uc) xs]
      (by kernel_rfl) (by kernel_rfl) (by decide) (by repeat (first | exact Stable.nil | refine Stable.fix ?_ | refine Stable.cons clV_stable ?_ | refine Stable.cons egV_stable ?_ | refine Stable.cons egP_stable ?_)) ?_ ?_
    · refine ⟨?_, ?_, ?_, ?_, ?_, ?_, ?_, ?_, ?a8, ?_, ?_, ?_, ?_, ?a13, ?a14, trivial⟩
      case a8 =>
        intro fr wz hg hold
        have h0 : fr.tmps[0]?.getD undef = .pointer (some ⟨e, 0, none⟩) := hold 0 rfl
        clear hold
        have q0 := Gr.at hg e0
        have q1 := Gr.at hg e1
        have q2 := Gr.at hg e2
        have q3 := Gr.at hg e3
        simp [predsImp, Region.binds, dstAt, fx]
        intros
        rename_i K hK
        go_simp
        refine (Hcl.out wz hg).mono ?_
        rintro e5 w5 ⟨g, c, cells, rfl, k1, k2, k3, k4, k5, k6⟩
        rw [HXL.out] at k5 ⊢
        exact hK _ _ ⟨g, c, rfl, Nat.le_trans hg.size k3, ⟨k5, k6⟩, cells, k1, k2⟩ k4
      case a13 =>
        intro fr wz hg hold
        have h0 : fr.tmps[0]?.getD undef = .pointer (some ⟨e, 0, none⟩) := hold 0 rfl
        clear hold
        have q0 := Gr.at hg e0
        have q1 := Gr.at hg e1
        have q2 := Gr.at hg e2
        have q3 := Gr.at hg e3
        simp [predsImp, Region.binds, dstAt, fx]
        intro hA hB hC
        obtain ⟨g, c, hv59, hnr⟩ := hB
        intros
        rename_i K hK
        go_simp
        exact hK _ _ ⟨g, c, rfl, hnr⟩ (Gr.rfl' _)
      case a14 =>
        intro fr wz hg hold
        have h0 : fr.tmps[0]?.getD undef = .pointer (some ⟨e, 0, none⟩) := hold 0 rfl
        clear hold
        have q0 := Gr.at hg e0
        have q1 := Gr.at hg e1
        have q2 := Gr.at hg e2
        have q3 := Gr.at hg e3
        simp [predsImp, Region.binds, dstAt]
        intro hA
        obtain ⟨g, c, hv64, hnr⟩ := hA
        intros
        rename_i K hK
        go_simp
        exact hK _ _ ⟨_, g, c, rfl, hg.size, hnr.gr (by go_grown), BlkT.new _ _ _⟩ (by go_grown)
      all_goals
        intro fr wz hg hold
        have h0 : fr.tmps[0]?.getD undef = .pointer (some ⟨e, 0, none⟩) := hold 0 rfl
        clear hold
        have q0 := Gr.at hg e0
        have q1 := Gr.at hg e1
        have q2 := Gr.at hg e2
        have q3 := Gr.at hg e3
        simp [predsImp, Region.binds, dstAt, fx]
        intros
        first
          | (rw [if_pos (by simp [*])]
             intro K hK)
          | (rename_i K hK)
        go_simp
      all_goals exact hK _ _ rfl (Gr.rfl' _)
    · intro wz hg
      rintro _ rfl _ rfl _ rfl _ rfl _ rfl _ rfl _ rfl _ rfl _ - _ rfl _ rfl _ rfl _ rfl _ - _ ⟨e2', g, c, rfl, he2, hnr, hbe⟩
      simp only [finAll, Act.put, List.setIfInBounds_toArray, List.set_cons_succ, List.set_cons_zero, List.drop_succ_cons, List.drop_zero, List.take_zero]
      clear e0 e1 e2 e3
      have h0s : E.w0.heap.size ≤ wr.heap.size := HWF.out.gr.size
      have hnew : EngW E.F E.w0 e2' g D wz := NewRows.eng HWE.out hg HXR.out (by rw [HDN.out]; exact hnr) h0s he2 (by rw [HP0.out, HDN.out]; exact hbe)
      have hgge := hnr.ge
      obtain ⟨cells, hcb, hcs⟩ := hnr.blk
      have ga : Gr wz (wz.alloc (.cells #[.int .i64 y] 2)) := by go_grown
      have k2 := hbe.cell 2 (v := .slice (some ⟨g, 0, none⟩) E.F.N c) rfl
      have hcb1 := hcb.gr ga
      obtain ⟨qv, cv, hxv, -⟩ := HXR.out v d HD.out
      have z0 := hcb1.cell v (hcs v _ hxv)
      have zf := hcb1.open_ v
      have hnew1 : EngW E.F E.w0 e2' g (D.set v [y]) ((wz.alloc (.cells #[.int .i64 y] 2)).setCell ⟨g, v, none⟩ (.slice (some ⟨wz.heap.size, 0, none⟩) 1 1)) :=
        (hnew.gr ga).store (by rw [HDN.out]; exact hvn) (ints_one wz _ (Nat.le_trans h0s hg.size) y) (fun z hz => by rw [List.mem_singleton.1 hz]; exact HYN.out) (by simp)
      have hk1 : Kp (· = g) (wz.alloc (.cells #[.int .i64 y] 2)) ((wz.alloc (.cells #[.int .i64 y] 2)).setCell ⟨g, v, none⟩ (.slice (some ⟨wz.heap.size, 0, none⟩) 1 1)) := Kp.set rfl
      have hg1 : Gr wr ((wz.alloc (.cells #[.int .i64 y] 2)).setCell ⟨g, v, none⟩ (.slice (some ⟨wz.heap.size, 0, none⟩) 1 1)) := Below.trans (hg.trans ga) (hk1.below (fun b hb => by rw [hb]; exact hgge) (hg.trans ga).size)
      have HNE := Lib.hid hnew1
      have HG1 := Lib.hid hg1
      have HGGE := Lib.hid hgge
      have HBE := Lib.hid hbe
      clear hnew hnew1 hk1 hg1 hcs hcb hcb1 hbe ga hnr hxv h0s hgge he2
      go_upto_region 14 with fail
      clear k2 z0 zf
      generalize (wz.alloc (.cells #[.int .i64 y] 2)).setCell ⟨g, v, none⟩ (.slice (some ⟨wz.heap.size, 0, none⟩) 1 1) = wS at *
      clear hg HBE
      have hfS := HWF.out.gr' HG1.out
      obtain ⟨u, hu⟩ : ∃ u, E.F.U[v]? = some u := ⟨_, List.getElem?_eq_getElem (by rw [HE.out.fam.uses.1]; exact hvn)⟩
      have hgu : E.F.U.getD v [] = u := by rw [List.getD_eq_getElem?_getD, hu]; rfl
      obtain ⟨hnd, hmem⟩ := HE.out.fam.uses.2 v hvn
      rw [hgu] at hnd hmem
      have hval : ∀ k ∈ u, 0 ≤ k ∧ k < (E.F.C.length : Int) := fun k hk => by
        obtain ⟨h0, x, hx, _⟩ := (hmem k).1 hk
        have := (List.getElem?_eq_some_iff.1 hx).1
        rw [Fam.cons, List.length_map] at this
        exact ⟨h0, by omega⟩
      obtain ⟨pu, cu, hvv, htd⟩ := TodoM.shared HE.out.fam hfS hu (fun k hk => by have := hval k hk; have := HE.out.fam.few; exact ⟨by omega, by omega⟩)
      obtain ⟨ucells, hub, hus⟩ := hfS.blk
      have u0 := hub.cell v (hus v _ hvv)
      have Hrd := Lib.hid (reduce_calls E.F E.w0 e2' g (D.set v [y]) pu cu u wS HE.out.fam hfS HNE.out htd hnd hval (fun k x hk hn => HRD.out.cst (by rw [HDN.out]; exact HE.out.fam.uses) (by rw [HDN.out]; exact hvn) k x hk (by rw [hgu]; exact hn)))
      obtain ⟨dp3, dc3, -, -, -, e3, -, -, -⟩ := (hlw.out.eng.gr HG1.out).cells
      have HMU : Hid (∀ W, Kp (MutR E.F g pu) wS W → FamW E.F E.w0 W → LbW E e dB D T w a' W ∧ E.st a' T1 W) := fun W hk hf => by
        have hk2 : Kp (TurnI E.w0.heap.size wr) wr W := (Kp.of_gr (C := TurnI E.w0.heap.size wr) HG1.out).more hk fun b hb hc => mutR_int HE.out.fam HWF.out HGGE.out hvv b hb hc
        exact ⟨hlw.out.step HE.out hT.out HTD.out HENG.out hk2 hf, HE.out.stable _ _ _ _ HS1.out hk2⟩
      have HCS : Hid (∀ W, FamW E.F E.w0 W → True) := fun _ _ => trivial
      clear hfS hu hgu hnd hmem hval htd hub hus hvv HCS
      by_cases hE2 : ∃ E2, RedOk E.F.cons (D.set v [y]) E2
      case neg =>
        have HNO := Lib.hid hE2
        clear hE2
        go_wp2_with (first
          | (go_at_call 31; refine Hrd.out.mono ?_; rintro e4 w4 ⟨rb, rfl, hfw, hkp, hyes, hno⟩; obtain rfl : rb = false := (by
              cases rb with
              | false => rfl
              | true => obtain ⟨E2, -, hOk⟩ := hyes rfl; exact absurd ⟨E2, hOk⟩ HNO.out); have HL4 := Lib.hid (HMU.out w4 hkp hfw).1; have HNil := Lib.hid (HRD.out.no (hno rfl)); clear hfw hkp hyes hno u0 e3)
          | fail)
        go_roundg (d.length - (m + 1))
        case measure => omega
        case rel => exact ⟨m + 1, a', by omega, rfl, by go_num, by show _ = _; rw [HTK.out, HNil.out, List.append_nil, hfd.out], HL4⟩
      obtain ⟨E2, hE2⟩ := hE2
      have HE2 := Lib.hid hE2
      clear hE2
      obtain ⟨af, haf⟩ : ∃ af, feedS E.step a' (sols E.F.cons E2) = af := ⟨_, rfl⟩
      have HAF := Lib.hid haf
      have HNDs : Hid (∀ d ∈ D.set v [y], d.Nodup) := set_nodup HRD.out.nd
      have HLb : Hid (∀ W, FamW E.F E.w0 W → Kp (MutR E.F g pu) wS W → EngW E.F E.w0 e2' g E2 W → Calls Try.prog 34 #[.pointer (some ⟨e2', 0, none⟩), .int .i64 ((v : Int) + 1), .func (.func E.f) #[] E.cap] W fun en w' => en = .returned (.bool af.2) ∧ LbW E e dB D T w af.1 w') := fun W hf hk he => by
        obtain ⟨h4, hs4⟩ := HMU.out W hk hf
        have h := HIH.out (v + 1) e2' g E2 T1 a' W (by omega) (by omega) (HLiv.out _ _ hfd.out) hs4 hf he (fun h => by have := HT1.out _ h; have := HGGE.out; omega) (HRD.out.yes (by rw [HDN.out]; exact hvn) HE2.out).1
        rw [show (((v + 1 : Nat)) : Int) = (v : Int) + 1 from rfl] at h
        refine h.mono ?_
        rintro en w' ⟨h5, h6⟩
        rw [haf] at h5 h6
        exact ⟨h5, h4.more hT.out HTD.out HENG.out HS2.out h6⟩
      have HSE := Lib.hid (HRD.out.yes (by rw [HDN.out]; exact hvn) HE2.out).2
      clear haf
      obtain ⟨a2, fb⟩ := af
      cases fb with
      | true =>
        have HFN := Lib.hid (show feedS E.step a ((d.take (m + 1)).flatMap fun y => sols E.F.cons (D.set v [y])) = (a2, true) by
          rw [HTK.out, feedS_go _ _ hfd.out, ← HSE.out, HAF.out])
        go_wp2_with (first
          | (go_at_call 31; refine Hrd.out.mono ?_; rintro e4 w4 ⟨rb, rfl, hfw, hkp, hyes, hno⟩; obtain rfl : rb = true := (by
              cases rb with
              | true => rfl
              | false => exact (RedOk.not HE2.out (hno rfl)).elim); obtain ⟨E3, hEW3, hOk3⟩ := hyes rfl; obtain rfl := RedOk.uniq HNDs.out hOk3 HE2.out; have Hc2 := Lib.hid (HLb.out w4 hfw hkp hEW3); clear hfw hkp hyes hno hEW3 hOk3 u0 e3)
          | (go_at_call 34; refine Hc2.out.mono ?_; rintro e5 w5 ⟨rfl, h6⟩; have HL5 := Lib.hid h6; clear h6)
          | fail)
        go_roundg (d.length - (m + 1))
        case measure => omega
        case rel => exact ⟨m + 1, a2, by omega, rfl, by go_num, HFN, HL5⟩
      | false =>
        have HFN := Lib.hid (show feedS E.step a (sols E.F.cons D) = (a2, false) by
          rw [HLeaf.out, HDT.out, List.flatMap_append]
          exact feedS_stop _ _ (by rw [HTK.out, feedS_go _ _ hfd.out, ← HSE.out, HAF.out]))
        go_wp2_with (first
          | (go_at_call 31; refine Hrd.out.mono ?_; rintro e4 w4 ⟨rb, rfl, hfw, hkp, hyes, hno⟩; obtain rfl : rb = true := (by
              cases rb with
              | true => rfl
              | false => exact (RedOk.not HE2.out (hno rfl)).elim); obtain ⟨E3, hEW3, hOk3⟩ := hyes rfl; obtain rfl := RedOk.uniq HNDs.out hOk3 HE2.out; have Hc2 := Lib.hid (HLb.out w4 hfw hkp hEW3); clear hfw hkp hyes hno hEW3 hOk3 u0 e3)
          | (go_at_call 34; refine Hc2.out.mono ?_; rintro e5 w5 ⟨rfl, h6⟩; have HL5 := Lib.hid h6; clear h6)
          | fail)
        exact hR.out _ _ _ HFN.out HL5.out
theorem label_upto (E : LbE α) (hE : LbOk E) : ∀ r, E.upto r
  | 0 => fun _ _ _ _ _ _ _ _ h _ => absurd h (Nat.not_lt_zero _)
  | r + 1 => label_step E hE r (label_upto E hE r)
/-- label, from the first variable on. -/
theorem label_calls (E : LbE α) (hE : LbOk E) (e dB : Nat) (D : List (List Int)) (T : Nat → Prop) (a : α) (w : World) (hlv : E.live a) (hst : E.st a T w) (hf : FamW E.F E.w0 w) (he : EngW E.F E.w0 e dB D w) (hT : ¬ T dB) (hr : Ready E.F.cons D 0) : Calls Try.prog 34 (E.args e 0) w (RetLb E e dB D T a w) :=
  label_upto E hE (E.F.N + 1) 0 e dB D T a w (Nat.zero_le _) (by omega) hlv hst hf he hT hr
end Go.Proofs.Ytbapmokbkjmdcaa

namespace Go.Proofs.Ytbapmokbkjmdcaa
open Go.RowKit Go.Maps Go.Lib

theorem feedS_most {α : Type} (m : Int) : ∀ (told L : List α), (told.length : Int) < m → feedS (fun (t : List α) (s : α) => (t ++ [s], decide (((t ++ [s]).length : Int) < m))) told L = ((told ++ L).take m.toNat, decide (((told ++ L).length : Int) < m))
  | told, [], h => by rw [feedS, List.append_nil, List.take_of_length_le (by omega), decide_eq_true h]
  | told, s :: L, h => by
    rw [feedS]
    by_cases h1 : ((told ++ [s]).length : Int) < m
    · rw [if_pos (by simpa using h1), feedS_most m _ L h1]; simp
    · rw [if_neg (by simpa using h1)]
      have h2 : told.length + 1 = m.toNat := by simp at h1; omega
      have h3 : (told ++ s :: L).take m.toNat = told ++ [s] := by
        rw [← h2]; simp [List.take_append, List.take_of_length_le]
      rw [h3]
      exact congrArg _ (decide_eq_false (by simp; omega)).symm

/-- One more row. -/
theorem BldD.push' {w0 : World} {D : List (List Int)} {dv : Value} {xs : List Value} {j : Nat} {w : World} (h : BldD w0 D dv xs j w) {d : List Int} (hd : D[j]? = some d) {u : Value} (hu : IntsOwn w w0.heap.size u d) (hj : j ≤ 1000000) (hw : w0.heap.size ≤ w.heap.size) (ty : TypeId) (b : Nat) (hb : w.cell? ⟨b, 0, none⟩ = some u) :
    ∃ v' w', (Builtin.append_ #[22, 22] ty #[dv, .slice (some ⟨b, 0, none⟩) 1 1]).run Try.prog w = .ok v' w' ∧ BldD w0 D v' (xs ++ [u]) (j + 1) w' ∧ Kp (fun x => dv.ownBlock = some x) w w' ∧ (v'.ownBlock = dv.ownBlock ∨ v'.ownBlock = some w.heap.size) := by
  obtain ⟨i0, hi, hz0, hz1, hz2⟩ := info_parts infoRows
  have hone : u.oneCell' = true := by
    obtain ⟨p, c, rfl⟩ := hu.form
    cases p <;> rfl
  obtain ⟨v', w', hr, ho, hg, hob⟩ := run_append_own_fresh (P := Try.prog) w w0.heap.size 22 ty 38 i0 (.slice none 0 0) 1 24 Try.underlying22 hi hz0 hz1 hz2 rfl (by decide) dv j xs h.row ⟨b, 0, none⟩ 1 1 [u] rfl (by
    intro k v hk
    match k, hk with
    | 0, hk => cases hk; exact hb
    | k + 1, hk => simp at hk) (by
    intro v hv
    rw [List.mem_singleton.1 hv]; exact hone) (by simp only [maxLen]; omega) (by omega) hw (by decide)
  have hkp : Kp (fun x => dv.ownBlock = some x) w w' := Kp.of_grown hg fun r hr => hr
  have hoth : ∀ {v : Value} {d : List Int}, IntsOwn w w0.heap.size v d → IntsOwn w' w0.heap.size v d := fun {v d} hv => ownsRow_kp hv hkp fun g hg hc => OfT.ne (ownsRow_type h.row hc).1 (ownsRow_type hv hg).1 (by decide) rfl
  refine ⟨v', w', hr, ⟨ho, fun i d' hi' hd' => ?_⟩, hkp, hob⟩
  have hxl : xs.length = j := by have := h.row.1; omega
  by_cases hij : i < j
  · obtain ⟨v, h1, h2⟩ := h.each i d' hij hd'
    exact ⟨v, by rw [List.getElem?_append_left (by omega)]; exact h1, hoth h2⟩
  · obtain rfl : i = j := by omega
    rw [hd] at hd'; cases hd'
    exact ⟨u, by rw [List.getElem?_append_right (by omega), hxl, Nat.sub_self]; rfl, hoth hu⟩

/-- What is told so far, in the block bo; how many are wanted, in the block bm. -/
structure TellS (w0 : World) (N bo bm : Nat) (most : Int) (told : List (List Int)) (T : Nat → Prop) (w : World) : Prop where
  row : ∃ ov xs, BlkT w bo 22 #[ov] ∧ BldD w0 told ov xs told.length w ∧ ∀ b, T b ↔ b = bo ∨ ov.ownBlock = some b
  box : BlkT w bm 3 #[.int .i64 most]
  geo : w0.heap.size ≤ bo
  ltm : bm < w0.heap.size
  each : ∀ s ∈ told, s.length = N ∧ ∀ y ∈ s, Near y
theorem TellS.typ {w0 : World} {N bo bm : Nat} {most : Int} {told : List (List Int)} {T : Nat → Prop} {w : World} (h : TellS w0 N bo bm most told T w) {b : Nat} (hb : T b) : (OfT w b 22 ∨ OfT w b 38) ∧ w0.heap.size ≤ b := by
  obtain ⟨ov, xs, h1, h2, h3⟩ := h.row
  rcases (h3 b).1 hb with rfl | hb
  · exact ⟨.inl (.of h1), h.geo⟩
  · exact ⟨.inr (ownsRow_type h2.row hb).1, (ownsRow_type h2.row hb).2⟩
theorem TellS.stable {w0 : World} {N bo bm : Nat} {most : Int} {told : List (List Int)} {T : Nat → Prop} {w w' : World} (h : TellS w0 N bo bm most told T w) {C : Nat → Prop} (hk : Kp C w w') (hC : ∀ b, b < w.heap.size → C b → OfT w b 3 ∧ w0.heap.size ≤ b) : TellS w0 N bo bm most told T w' := by
  obtain ⟨ov, xs, h1, h2, h3⟩ := h.row
  have hk2 : Kp (TurnI w0.heap.size w) w w' := hk.weaken fun b hb hc => hC b hb hc
  exact ⟨⟨ov, xs, h1.kp hk2 fun hc => hc.1.not (by decide) (.of h1), h2.kp hk2 (τ := 3) (fun b hb => hb.1) (by decide) (by decide), h3⟩, h.box.kp hk2 fun hc => by have := hc.2; have := h.ltm; omega, h.geo, h.ltm, h.each⟩

set_option maxHeartbeats 4000000 in
set_option maxRecDepth 100000 in
theorem tell_calls (w0 : World) (N bo bm : Nat) (most : Int) (told : List (List Int)) (T : Nat → Prop) (v : Value) (s : List Int) (w : World) (h : TellS w0 N bo bm most told T w) (hlv : (told.length : Int) < most) (hm : most ≤ 20000) (hg : Gr w0 w) (hv : IntsOwn w w0.heap.size v s) (hsl : s.length = N) (hsn : ∀ y ∈ s, Near y) :
    Calls Try.prog 35 #[v, .pointer (some ⟨bo, 0, none⟩), .pointer (some ⟨bm, 0, none⟩)] w fun e w' => e = .returned (.bool (decide (((told ++ [s]).length : Int) < most))) ∧ ∃ T', TellS w0 N bo bm most (told ++ [s]) T' w' ∧ Kp T w w' ∧ ∀ b, T' b → T b ∨ w.heap.size ≤ b := by
  have hR : Hid (∀ c w', decide (((told ++ [s]).length : Int) < most) = c → (∃ T', TellS w0 N bo bm most (told ++ [s]) T' w' ∧ Kp T w w' ∧ ∀ b, T' b → T b ∨ w.heap.size ≤ b) → (fun (e : Ending) (w' : World) => e = .returned (.bool (decide (((told ++ [s]).length : Int) < most))) ∧ ∃ T', TellS w0 N bo bm most (told ++ [s]) T' w' ∧ Kp T w w' ∧ ∀ b, T' b → T b ∨ w.heap.size ≤ b) (.returned (.bool c)) w') := fun c w' h1 h2 => ⟨by rw [h1], h2⟩
  generalize (fun (e : Ending) (w' : World) => e = .returned (.bool (decide (((told ++ [s]).length : Int) < most))) ∧ ∃ T', TellS w0 N bo bm most (told ++ [s]) T' w' ∧ Kp T w w' ∧ ∀ b, T' b → T b ∨ w.heap.size ≤ b) = Q at hR ⊢
  obtain ⟨pv, cv, rfl⟩ := hv.form
  obtain ⟨ov, xs, hb, hbd, hT⟩ := h.row
  have ga : Gr w (w.alloc (.cells #[.slice pv s.length cv] 38)) := by go_grown
  have hbd1 : BldD w0 (told ++ [s]) ov xs told.length w := ⟨hbd.row, fun i d hi hd => hbd.each i d hi (by rw [List.getElem?_append_left hi] at hd; exact hd)⟩
  obtain ⟨v', w', hrun, hbd2, hkp, hob⟩ := (hbd1.gr ga).push' (d := s) (by rw [List.getElem?_append_right (Nat.le_refl _), Nat.sub_self]; rfl) (hv.gr ga) (by omega) (Nat.le_trans hg.size ga.size) 22 w.heap.size ((BlkT.new w 38 #[.slice pv s.length cv]).cell 0 rfl)
  obtain ⟨p', c', rfl⟩ := ownsRow_form hbd2.row
  have hb1 : BlkT w' bo 22 #[ov] := (hb.gr ga).kp hkp fun hc => OfT.ne (.of (hb.gr ga)) (ownsRow_type (hbd1.gr ga).row hc).1 (by decide) rfl
  have hks : Kp (· = bo) w' (w'.setCell ⟨bo, 0, none⟩ (.slice p' (told.length + 1) c')) := Kp.set rfl
  have hbd3 : BldD w0 (told ++ [s]) (.slice p' (told.length + 1) c') (xs ++ [.slice pv s.length cv]) (told.length + 1) (w'.setCell ⟨bo, 0, none⟩ (.slice p' (told.length + 1) c')) := hbd2.kp hks (τ := 22) (fun b hb => by rw [hb]; exact .of hb1) (by decide) (by decide)
  have hkt : Kp T w (w'.setCell ⟨bo, 0, none⟩ (.slice p' (told.length + 1) c')) := ((Kp.of_gr ga).trans (hkp.mono fun b hb => (hT b).2 (.inr hb))).trans (hks.mono fun b hb => (hT b).2 (.inl hb))
  have hfin : ∃ T', TellS w0 N bo bm most (told ++ [s]) T' (w'.setCell ⟨bo, 0, none⟩ (.slice p' (told.length + 1) c')) ∧ Kp T w (w'.setCell ⟨bo, 0, none⟩ (.slice p' (told.length + 1) c')) ∧ ∀ b, T' b → T b ∨ w.heap.size ≤ b := by
    refine ⟨fun b => b = bo ∨ (Value.slice p' (told.length + 1) c').ownBlock = some b, ⟨⟨_, xs ++ [.slice pv s.length cv], hb1.set 0 _, by rw [List.length_append]; exact hbd3, fun b => Iff.rfl⟩, h.box.kp hkt fun hc => by have := (h.typ hc).2; have := h.ltm; omega, h.geo, h.ltm, fun z hz => (List.mem_append.1 hz).elim (h.each z) fun hz => by rw [List.mem_singleton.1 hz]; exact ⟨hsl, hsn⟩⟩, hkt, fun b hb => ?_⟩
    rcases hb with hb | hb
    · exact .inl ((hT b).2 (.inl hb))
    · rcases hob with ho | ho
      · exact .inl ((hT b).2 (.inr (by rw [← ho]; exact hb)))
      · rw [ho] at hb
        cases hb
        exact .inr ga.size
  have HF := Lib.hid hfin
  have HR := Lib.hid hrun
  have z0 := hb1.cell 0 (v := ov) rfl
  have zf := hb1.open_ 0
  have m0 := h.box.cell 0 (v := .int .i64 most) rfl
  have HM := Lib.hid (hfin.elim fun _ h => h.1.box)
  have HB2 := Lib.hid (hb1.set 0 (.slice p' (told.length + 1) c'))
  have b0 := hb.cell 0 (v := ov) rfl
  have HLN := Lib.hid (show ((told ++ [s]).length : Int) = (told.length : Int) + 1 by simp)
  rw [HLN.out] at hR
  clear hT hbd hbd1 hbd2 hbd3 hkp hob hks hkt hfin hrun hb hb1 ga h hv hsl hsn hg m0
  go_enter Try.func35, Try.ntmps35
  try simp only [List.append_eq, List.cons_append, List.nil_append]
  go_upto_region 2 with (first
    | (at_builtin; refine wpList_append_run _ rfl _ _ _ _ rfl _ _ (by rfl) (by rfl) _ _ HR.out ?_)
    | fail)
  clear z0 zf b0
  generalize w'.setCell ⟨bo, 0, none⟩ (.slice p' (told.length + 1) c') = wS at *
  have b0 := HB2.out.cell 0 (v := .slice p' (told.length + 1) c') rfl
  have m0 := HM.out.cell 0 (v := .int .i64 most) rfl
  obtain ⟨c, hc⟩ : ∃ c, decide ((told.length : Int) + 1 < most) = c := ⟨_, rfl⟩
  have HC := Lib.hid hc
  go_wp2_with fail
  exact hR.out _ _ HC.out HF.out
end Go.Proofs.Ytbapmokbkjmdcaa
