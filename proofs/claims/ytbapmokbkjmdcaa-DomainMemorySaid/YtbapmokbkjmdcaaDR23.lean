/-
  hornref.Choose: the walk.
  hornref.Supported: what is asked of Choose; the plain law.
-/
import Derived.Test.YtbapmokbkjmdcaaDR22
namespace Go.Proofs.Ytbapmokbkjmdcaa
open Go.RowKit Go.Maps Go.Lib
variable {α : Type}

theorem ChW.still {E : ChE α} (hE : ChOk E) {w : World} {now : List Int} {set : List Bool} (h : ChW E w now set) {y : Cn} (hy : y ∈ E.L) :
    Calls Try.prog 36 #[y.val, .slice (some ⟨E.bN, 0, none⟩) E.n E.n, .slice (some ⟨E.bS, 0, none⟩) E.n E.n] w (Ret (.bool (stillG y.con (gOf now set))) w) := by
  have hf := hE.few
  have h1 := still_calls y now set (some ⟨E.bN, 0, none⟩) now.length (some ⟨E.bS, 0, none⟩) set.length w ((hE.inp w h.kp).ins y hy) (ints_sl h.bn h.near (by rw [h.lenN]; omega)) (bools_sl h.bs (by rw [h.lenS]; omega)) (by rw [h.lenN, h.lenS]) (by rw [h.lenN]; exact hE.ok y hy) h.near
  rw [h.lenN, h.lenS] at h1
  exact h1

set_option maxHeartbeats 16000000 in
set_option maxRecDepth 100000 in
theorem choose_step (E : ChE α) (hE : ChOk E) (r : Nat) (IH : E.upto r) : E.upto (r + 1) := by
  intro i0 a w now set hi hr hlv0 hst hw hpre
  have HLV := Lib.hid hlv0
  have HLiv : Hid (∀ L a', feedS E.step a L = (a', true) → E.live a') := fun L a' h => by
    have h1 := feedS_live hE.liv L a hlv0
    rw [h] at h1
    exact h1 rfl
  clear hlv0
  obtain ⟨g, hg⟩ : ∃ g, gOf now set = g := ⟨_, rfl⟩
  have hR : Hid (∀ fb a' now' w', feedS E.step a (E.leaves i0 g) = (a', fb) → E.st a' w' → ChW E w' now' set → gOf now' set = g → RetCh E i0 a now set (.returned (.bool fb)) w') := fun fb a' now' w' h1 h2 h3 h4 => ⟨now', by rw [hg, h1], by rw [hg, h1]; exact h2, h3, h4.trans hg.symm⟩
  have HE := Lib.hid hE
  have HIH : Hid (∀ (i : Nat) (a : α) (w : World) (now : List Int) (set : List Bool), i ≤ E.n → E.n - i < r → E.live a → E.st a w → ChW E w now set → (∀ k, k < i → E.asked.getD k false = true → set.getD k false = true) → Calls Try.prog 37 (E.args i) w (RetCh E i a now set)) := IH
  have HST := Lib.hid hst
  have HW := Lib.hid hw
  have HPRE := Lib.hid hpre
  have HG := Lib.hid hg
  generalize RetCh E i0 a now set = Q at hR ⊢
  rw [show E.args i0 = #[.slice E.dp E.D.length E.dc, .slice E.lp E.L.length E.lc, .slice E.ap E.n E.ac, .slice (some ⟨E.bS, 0, none⟩) E.n E.n, .int .i64 i0, .slice (some ⟨E.bN, 0, none⟩) E.n E.n, .func (.func E.f) #[] E.cap] from rfl]
  have HArgs : Hid (∀ j, E.args j = #[.slice E.dp E.D.length E.dc, .slice E.lp E.L.length E.lc, .slice E.ap E.n E.ac, .slice (some ⟨E.bS, 0, none⟩) E.n E.n, .int .i64 j, .slice (some ⟨E.bN, 0, none⟩) E.n E.n, .func (.func E.f) #[] E.cap]) := fun j => rfl
  have HRows : Hid (∀ W, Kp E.C E.w1 W → RowsAt W E.dp E.D) := fun W hk => (hE.inp W hk).rows
  have HCns : Hid (∀ W, Kp E.C E.w1 W → CnsAt W E.lp E.L ∧ ∀ y ∈ E.L, y.In W) := fun W hk => ⟨(hE.inp W hk).cns, (hE.inp W hk).ins⟩
  have HAsk : Hid (∀ W, Kp E.C E.w1 W → BoolSl W E.ap E.ac E.asked) := fun W hk => (hE.inp W hk).ask
  have hlc := (hE.inp w hw.kp).lenD.1
  have hcc := (hE.inp w hw.kp).lenD.2
  have hlc2 := (hE.inp w hw.kp).lenC.1
  have hcc2 := (hE.inp w hw.kp).lenC.2
  have hlc3 := (hE.inp w hw.kp).ask.1
  have hcc3 := (hE.inp w hw.kp).ask.2.1
  have hlD := hE.lenD
  have hlA := hE.lenA
  have hfew := hE.few
  have HEnd : Hid (∀ g, E.leaves E.n g = [g]) := E.leaves_end hE.lenD
  have HSkip : Hid (∀ i g, i < E.D.length → (!E.asked.getD i false || (g (i : Nat)).isSome) = true → E.leaves i g = E.leaves (i + 1) g) := fun i g => E.leaves_skip
  have HAt : Hid (∀ (i : Nat) (g : Int → Option Int), i < E.D.length → ¬ (!E.asked.getD i false || (g i).isSome) = true → E.leaves i g = (E.D.getD i []).flatMap fun x => if (E.L.map Cn.con).all (fun c => stillG c (updG g i x)) then E.leaves (i + 1) (updG g i x) else []) := fun i g => E.leaves_at
  have HNear : Hid (∀ d ∈ E.D, ∀ y ∈ d, Near y) := hE.near
  have HStill : Hid (∀ W now set, ChW E W now set → ∀ y ∈ E.L, Calls Try.prog 36 #[y.val, .slice (some ⟨E.bN, 0, none⟩) E.n E.n, .slice (some ⟨E.bS, 0, none⟩) E.n E.n] W (Ret (.bool (stillG y.con (gOf now set))) W)) := fun W now set h y hy => h.still hE hy
  have HCall : Hid (∀ a w now set, E.live a → E.st a w → ChW E w now set → (∀ k, k < E.n → E.asked.getD k false = true → set.getD k false = true) → Calls Try.prog E.f E.cap w fun e w' => e = .returned (.bool (E.step a (gOf now set)).2) ∧ E.st (E.step a (gOf now set)).1 w' ∧ ChW E w' now set) := hE.call
  have hent := hE.enter
  have HLN := Lib.hid hw.lenN
  have HLS := Lib.hid hw.lenS
  have HSet : Hid (∀ W now set i b, ChW E W now set → ChW E (W.setCell ⟨E.bS, i, none⟩ (.bool b)) now (set.set i b)) := fun W now set i b h => h.sets hE i b
  have HNow : Hid (∀ W now set i x, ChW E W now set → Near x → ChW E (W.setCell ⟨E.bN, i, none⟩ (.int .i64 x)) (now.set i x) set) := fun W now set i x h hx => h.nows hE i x hx
  have HStS : Hid (∀ a W i b, E.st a W → E.st a (W.setCell ⟨E.bS, i, none⟩ (.bool b))) := fun a W i b h => hE.stable _ _ _ h (Kp.set (.inr rfl))
  have HStN : Hid (∀ a W i x, E.st a W → E.st a (W.setCell ⟨E.bN, i, none⟩ (.int .i64 x))) := fun a W i b h => hE.stable _ _ _ h (Kp.set (.inl rfl))
  have HStG : Hid (∀ a W W', E.st a W → Gr W W' → E.st a W') := fun a W W' h hg => hE.stable _ _ _ h (Kp.of_gr hg)
  have HBS : Hid (∀ W now set, ChW E W now set → BlkT W E.bS 4 (bools set) ∧ BlkT W E.bN 2 (ints now) ∧ now.length = E.n ∧ set.length = E.n) := fun W now set h => ⟨h.bs, h.bn, h.lenN, h.lenS⟩
  clear hst hw hpre hg IH hE HE
  generalize E.dp = dp at *
  generalize E.dc = dc at *
  generalize E.D = D at *
  generalize E.lp = lp at *
  generalize E.lc = lc at *
  generalize E.L = L at *
  generalize E.ap = ap at *
  generalize E.ac = ac at *
  generalize E.asked = asked at *
  generalize E.bS = bS at *
  generalize E.bN = bN at *
  generalize E.f = f at *
  generalize E.cap = cap at *
  generalize E.n = n at *
  rw [hlD] at hlc ⊢
  have HLD := Lib.hid hlD
  have HLA := Lib.hid hlA
  rw [hlD] at HArgs
  rw [hlA] at hlc3
  clear hlD hlA
  go_enter Try.func37, Try.ntmps37
  try simp only [List.append_eq, List.cons_append, List.nil_append]
  go_wp2_with fail
  go_loopg [4] (n - i0) (fun k iv wr => ∃ j : Nat, i0 ≤ j ∧ j ≤ n ∧ k = n - j ∧ iv = .int .i64 ((j : Nat) : Int) ∧ w = wr ∧ Hid (E.leaves j g = E.leaves i0 g) ∧ Hid (∀ k, k < j → asked.getD k false = true → set.getD k false = true))
  case atStart => exact ⟨i0, Nat.le_refl _, hi, rfl, rfl, rfl, rfl, HPRE.out⟩
  case round =>
    obtain ⟨j, hj0, hj, rfl, rfl, rfl, hlv, hset⟩ := hrel
    by_cases hlt : j < n
    case neg =>
      obtain rfl : j = n := by omega
      have Hc := Lib.hid (HCall.out a w now set HLV.out HST.out HW.out hset.out)
      have HF := Lib.hid (show feedS E.step a (E.leaves i0 g) = E.step a g by rw [← hlv.out, HEnd.out, feedS_one])
      have HFin : Hid (∀ w', E.st (E.step a g).1 w' → ChW E w' now set → Q (.returned (.bool (E.step a g).2)) w') := fun w' h1 h2 => hR.out _ _ now w' HF.out h1 h2 HG.out
      rw [HG.out] at Hc
      clear hset
      generalize (E.step a g).2 = fb at *
      generalize (E.step a g).1 = a' at *
      go_wp2_with (first
        | (refine Hc.out.mono ?_; rintro e w1 ⟨rfl, h1, h2⟩; have HF2 := Lib.hid (HFin.out w1 h1 h2); clear h1 h2)
        | fail)
      exact HF2.out
    obtain ⟨aj, haj⟩ : ∃ aj, asked.getD j false = aj := ⟨_, rfl⟩
    obtain ⟨sj, hsj⟩ : ∃ sj, set.getD j false = sj := ⟨_, rfl⟩
    have h1 : asked[j]? = some aj := by rw [← haj]; exact getD_lt' (by rw [HLA.out]; exact hlt)
    have h2 : set[j]? = some sj := by rw [← hsj]; exact getD_lt' (by rw [HLS.out]; exact hlt)
    obtain ⟨b, o, hap, _, hrk⟩ := (HAsk.out w HW.out.kp).ptr (by rw [HLA.out]; omega)
    subst hap
    have c0 := hrk j _ h1
    have hbs := (HBS.out w now set HW.out).1
    have c1 := hbs.cell j (bools_at h2)
    have HGS := Lib.hid (show (g (j : Int)).isSome = sj by rw [← HG.out, gOf_nat, hsj])
    have HAJ := Lib.hid haj
    have HSJ := Lib.hid hsj
    clear hrk h1 h2 haj hsj
    have HStep : Hid ((aj = true → sj = true) → (E.leaves (j + 1) g = E.leaves i0 g) ∧ ∀ k, k < j + 1 → asked.getD k false = true → set.getD k false = true) := fun h => by
      refine ⟨?_, fun k hk hak => ?_⟩
      · rw [← hlv.out]
        refine (HSkip.out j g (by rw [HLD.out]; exact hlt) ?_).symm
        rw [HAJ.out, HGS.out]
        cases aj with
        | false => rfl
        | true => rw [h rfl]; rfl
      · by_cases hkj : k = j
        · subst hkj
          rw [HAJ.out] at hak
          rw [HSJ.out]; exact h hak
        · exact hset.out k (by omega) hak
    cases aj with
    | false =>
      have HS1 := Lib.hid (HStep.out (fun h => by cases h)).1
      have HS2 := Lib.hid (HStep.out (fun h => by cases h)).2
      clear hbs
      go_wp2_with fail
      go_roundg (n - (j + 1))
      case measure => omega
      case rel => exact ⟨j + 1, by omega, by omega, rfl, by go_num, rfl, HS1, HS2⟩
    | true =>
      cases sj with
      | true =>
        have HS1 := Lib.hid (HStep.out (fun _ => rfl)).1
        have HS2 := Lib.hid (HStep.out (fun _ => rfl)).2
        clear hbs
        go_wp2_with fail
        go_roundg (n - (j + 1))
        case measure => omega
        case rel => exact ⟨j + 1, by omega, by omega, rfl, by go_num, rfl, HS1, HS2⟩
      | false =>
        clear HStep
        have hbj : ((j : Int) == (n : Int)) = false := beq_eq_false_iff_ne.2 (by omega)
        have zf := hbs.open_ j
        have HWS := Lib.hid (HSet.out w now set j true HW.out)
        have HSS := Lib.hid (HStS.out a w j true HST.out)
        have HGN : Hid (g (j : Int) = none) := by
          show _ = _
          have := HGS.out
          cases hgj : g (j : Int) with
          | none => rfl
          | some z => rw [hgj] at this; cases this
        clear hbs
        go_upto_region 6 with fail
        clear c0 c1 zf hbj
        generalize w.setCell ⟨bS, j, none⟩ (.bool true) = wS at *
        obtain ⟨d, hd⟩ : ∃ d, D[j]? = some d := ⟨_, List.getElem?_eq_getElem (by rw [HLD.out]; exact hlt)⟩
        have HD := Lib.hid hd
        have HDN := Lib.hid (HNear.out d (List.mem_of_getElem? hd))
        have HLeaf := Lib.hid (show E.leaves i0 g = d.flatMap fun x => if (L.map Cn.con).all (fun c => stillG c (updG g j x)) then E.leaves (j + 1) (updG g j x) else [] by
          rw [← hlv.out, HAt.out j g (by rw [HLD.out]; exact hlt) (by rw [HAJ.out, HGS.out]; decide), List.getD_eq_getElem?_getD, hd]; rfl)
        obtain ⟨F, hF⟩ : ∃ F : Int → List (Int → Option Int), (fun x => if (L.map Cn.con).all (fun c => stillG c (updG g j x)) then E.leaves (j + 1) (updG g j x) else []) = F := ⟨_, rfl⟩
        rw [hF] at HLeaf
        have HF1 : Hid (∀ x, (L.map Cn.con).all (fun c => stillG c (updG g j x)) = true → F x = E.leaves (j + 1) (updG g j x)) := fun x h => by rw [← hF]; exact if_pos h
        have HF2 : Hid (∀ x, (L.map Cn.con).all (fun c => stillG c (updG g j x)) = false → F x = []) := fun x h => by rw [← hF]; exact if_neg (by rw [h]; decide)
        have HSB := Lib.hid (set_back (by rw [HLS.out]; exact hlt) HSJ.out)
        have HPRE2 : Hid (∀ k, k < j + 1 → asked.getD k false = true → (set.set j true).getD k false = true) := fun k hk hak => by
          rw [List.getD_eq_getElem?_getD]
          by_cases hkj : j = k
          · subst hkj; rw [List.getElem?_set_self (by rw [HLS.out]; exact hlt)]; rfl
          · rw [List.getElem?_set_ne hkj, ← List.getD_eq_getElem?_getD]; exact hset.out k (by omega) hak
        have HLS2 : Hid ((set.set j true)[j]? = some true) := List.getElem?_set_self (by rw [HLS.out]; exact hlt)
        have HUN : Hid (∀ now' x, gOf now' (set.set j true) = updG g j x → gOf now' set = g) := fun now' x h => gOf_unset HSJ.out HGN.out h
        have HSG : Hid (∀ now' x, now'.length = n → gOf now' set = g → gOf (now'.set j x) (set.set j true) = updG g j x) := fun now' x hl h => by
          rw [gOf_set (by omega) (by rw [HLS.out]; exact hlt), h]
        obtain ⟨set', hset'⟩ : ∃ set', set.set j true = set' := ⟨_, rfl⟩
        rw [hset'] at HWS HPRE2 HLS2 HUN HSG HSB
        clear hd hF hset' hset
        go_wp2_with fail
        go_loopg [15, 16, 17] d.length (fun k kv okv jv wr => ∃ (m : Nat) (a' : α) (now' : List Int), m ≤ d.length ∧ k = d.length - m ∧ kv = .int .i64 ((m : Nat) : Int) ∧ Hid (feedS E.step a ((d.take m).flatMap F) = (a', true)) ∧ Hid (E.st a' wr) ∧ Hid (ChW E wr now' set') ∧ Hid (gOf now' set = g))
        case atStart => exact ⟨0, a, now, Nat.zero_le _, rfl, rfl, by show _ = _; rw [List.take_zero, List.flatMap_nil, feedS], HSS, HWS, HG⟩
        case round =>
          clear HSS HWS
          obtain ⟨m, a', now', hm, rfl, rfl, hfd, hsa, hwn, hgn⟩ := hrel
          obtain ⟨b2, o2, hdp, _, hrd⟩ := (HRows.out wr hwn.out.kp).resolve_left (fun e0 => by
            have := HLD.out
            rw [e0] at this
            simp at this; omega)
          subst hdp
          obtain ⟨q, cq, d0, hsl⟩ := hrd j d HD.out
          have hdl := hsl.1
          have hdc := hsl.2.1
          have HSL := Lib.hid hsl
          clear hrd hsl
          by_cases hmd : m < d.length
          case neg =>
            obtain rfl : m = d.length := by omega
            have hbs := (HBS.out wr now' set' hwn.out).1
            have z0 := hbs.cell j (bools_at HLS2.out)
            have zf := hbs.open_ j
            have HF := Lib.hid (show feedS E.step a (E.leaves i0 g) = (a', true) by rw [HLeaf.out, ← hfd.out, List.take_length])
            have HW2 := Lib.hid (HSet.out wr now' set' j false hwn.out)
            have HS2 := Lib.hid (HStS.out a' wr j false hsa.out)
            rw [HSB.out] at HW2
            clear hbs hfd
            go_wp2_with fail
            exact hR.out _ _ now' _ HF.out HS2.out HW2.out hgn.out
          obtain ⟨y, hy⟩ : ∃ y, d[m]? = some y := ⟨_, List.getElem?_eq_getElem hmd⟩
          obtain ⟨b3, o3, hqe, _, hr3⟩ := HSL.out.ptr (by omega)
          subst hqe
          have d1 := hr3 m y hy
          have hyn := HDN.out y (List.mem_of_getElem? hy)
          obtain ⟨-, hbn, hln, -⟩ := HBS.out wr now' set' hwn.out
          obtain ⟨z, hz⟩ : ∃ z, now'[j]? = some z := ⟨_, List.getElem?_eq_getElem (by omega)⟩
          have z0 := hbn.cell j (ints_at hz)
          have zf := hbn.open_ j
          have HWN := Lib.hid (HNow.out wr now' set' j y hwn.out hyn)
          have HSN := Lib.hid (HStN.out a' wr j y hsa.out)
          have HGG := Lib.hid (HSG.out now' y hln hgn.out)
          have HTK := Lib.hid (show (d.take (m + 1)).flatMap F = (d.take m).flatMap F ++ F y by
            rw [List.take_add_one, hy, List.flatMap_append]; simp)
          have HDT := Lib.hid (show d = d.take (m + 1) ++ d.drop (m + 1) from (List.take_append_drop _ _).symm)
          clear hr3 hy hbn hz hwn hsa hyn hln
          go_upto_region 10 with fail
          clear d0 d1 z0 zf
          generalize wr.setCell ⟨bN, j, none⟩ (.int .i64 y) = wN at *
          obtain ⟨now1, hnow1⟩ : ∃ now1, now'.set j y = now1 := ⟨_, rfl⟩
          rw [hnow1] at HWN HGG
          clear hnow1
          generalize hgy : updG g (j : Int) y = gy at *
          have HGY := Lib.hid hgy
          clear hgy
          go_wp2_with fail
          go_loopg [16, 17] L.length (fun k okv jv wx => ∃ p : Nat, p ≤ L.length ∧ k = L.length - p ∧ okv = .bool (((L.take p).map Cn.con).all fun c => stillG c gy) ∧ jv = .int .i64 ((p : Nat) : Int) ∧ Hid (Gr wN wx))
          case atStart => exact ⟨0, Nat.zero_le _, rfl, rfl, rfl, Gr.rfl' _⟩
          case round =>
            obtain ⟨p, hp, rfl, rfl, rfl, gx⟩ := hrel
            by_cases hpl : p < L.length
            · obtain ⟨x, hx⟩ : ∃ x, L[p]? = some x := ⟨_, List.getElem?_eq_getElem hpl⟩
              have hxin := List.mem_of_getElem? hx
              have hchw := HWN.out.gr gx.out
              obtain ⟨cb, co, hlpe, _, hcells⟩ := (HCns.out wr hchw.kp).1.resolve_left (fun e0 => by rw [e0] at hxin; exact (List.not_mem_nil hxin))
              subst hlpe
              have x0 := hcells _ x hx 0 (.int .i64 x.k) rfl
              have x1 := hcells _ x hx 1 (.slice x.vp x.vs.length x.vc) rfl
              have x2 := hcells _ x hx 2 (.slice x.cp x.cs.length x.cc) rfl
              have x3 := hcells _ x hx 3 (.int .i64 x.op) rfl
              have x4 := hcells _ x hx 4 (.int .i64 x.c) rfl
              simp only [← Nat.add_assoc, Nat.add_zero] at x0 x1 x2 x3 x4
              have HTP := Lib.hid (show (((L.take (p + 1)).map Cn.con).all fun c => stillG c gy) = ((((L.take p).map Cn.con).all fun c => stillG c gy) && stillG x.con gy) by
                rw [List.take_add_one, hx, List.map_append, List.all_append]; simp)
              have Hc := Lib.hid (HStill.out wr now1 set' hchw x hxin)
              rw [HGG.out, show x.val = .agg #[.int .i64 x.k, .slice x.vp x.vs.length x.vc, .slice x.cp x.cs.length x.cc, .int .i64 x.op, .int .i64 x.c] from rfl] at Hc
              generalize (((L.take p).map Cn.con).all fun c => stillG c gy) = okp at *
              generalize stillG x.con gy = sx at *
              clear hx hxin hchw hcells
              cases okp with
              | true =>
                go_wp2_with (first
                  | (go_at_call 36; refine Hc.out.mono ?_; rintro e1 w1 ⟨rfl, hb⟩; have HG1 := Lib.hid (gx.out.trans (show Gr wr w1 from hb)); clear hb)
                  | fail)
                go_roundg (L.length - (p + 1))
                case measure => omega
                case rel => exact ⟨p + 1, by omega, rfl, by rw [HTP.out, Bool.true_and], by go_num, HG1⟩
              | false =>
                go_wp2_with fail
                go_roundg (L.length - (p + 1))
                case measure => omega
                case rel => exact ⟨p + 1, by omega, rfl, by rw [HTP.out, Bool.false_and], by go_num, gx⟩
            · obtain rfl : p = L.length := by omega
              rw [List.take_length]
              have HWX := Lib.hid (HWN.out.gr gx.out)
              have HSX := Lib.hid (HStG.out a' wN wr HSN.out gx.out)
              obtain ⟨oka, hoka⟩ : ∃ oka, ((L.map Cn.con).all fun c => stillG c gy) = oka := ⟨_, rfl⟩
              have HOKA := Lib.hid hoka
              rw [hoka]
              clear hoka
              cases oka with
              | false =>
                have HFN := Lib.hid (show feedS E.step a ((d.take (m + 1)).flatMap F) = (a', true) by
                  rw [HTK.out, HF2.out y (by rw [HGY.out]; exact HOKA.out), List.append_nil, hfd.out])
                have HGN2 := Lib.hid (HUN.out now1 y (by rw [HGG.out, HGY.out]))
                go_wp2_with fail
                go_roundg (d.length - (m + 1))
                case measure => omega
                case rel => exact ⟨m + 1, a', now1, by omega, rfl, by go_num, HFN, HSX, HWX, HGN2⟩
              | true =>
                have Hc := Lib.hid (HIH.out (j + 1) a' wr now1 set' (by omega) (by omega) (HLiv.out _ _ hfd.out) HSX.out HWX.out HPRE2.out)
                rw [HArgs.out, show (((j + 1 : Nat)) : Int) = (j : Int) + 1 from rfl] at Hc
                have HFY := Lib.hid (HF1.out y (by rw [HGY.out]; exact HOKA.out))
                rw [HGY.out] at HFY
                obtain ⟨af, haf⟩ : ∃ af, feedS E.step a' (E.leaves (j + 1) gy) = af := ⟨_, rfl⟩
                have Hc2 : Hid (Calls Try.prog 37 #[.slice (some ⟨b2, o2, none⟩) n dc, .slice lp L.length lc, .slice (some ⟨b, o, none⟩) n ac, .slice (some ⟨bS, 0, none⟩) n n, .int .i64 ((j : Int) + 1), .slice (some ⟨bN, 0, none⟩) n n, .func (.func f) #[] cap] wr fun e w' => ∃ now2, e = .returned (.bool af.2) ∧ E.st af.1 w' ∧ ChW E w' now2 set' ∧ gOf now2 set = g) := by
                  refine Hc.out.mono ?_
                  rintro e w' ⟨now2, h1, h2, h3, h4⟩
                  rw [HGG.out] at h1 h2 h4
                  rw [haf] at h1 h2
                  exact ⟨now2, h1, h2, h3, HUN.out now2 y (by rw [h4, HGY.out])⟩
                have HAF := Lib.hid haf
                clear haf Hc
                obtain ⟨a2, fb⟩ := af
                cases fb with
                | true =>
                  have HFN := Lib.hid (show feedS E.step a ((d.take (m + 1)).flatMap F) = (a2, true) by
                    rw [HTK.out, HFY.out, feedS_go _ _ hfd.out, HAF.out])
                  go_wp2_with (first
                    | (go_at_call 37; refine Hc2.out.mono ?_; rintro e1 w1 ⟨now2, rfl, h2, h3, h4⟩; have HS3 := Lib.hid h2; have HW3 := Lib.hid h3; have HG3 := Lib.hid h4; clear h2 h3 h4)
                    | fail)
                  go_roundg (d.length - (m + 1))
                  case measure => omega
                  case rel => exact ⟨m + 1, a2, now2, by omega, rfl, by go_num, HFN, HS3, HW3, HG3⟩
                | false =>
                  have HFN := Lib.hid (show feedS E.step a (E.leaves i0 g) = (a2, false) by
                    rw [HLeaf.out, HDT.out, List.flatMap_append]
                    exact feedS_stop _ _ (by rw [HTK.out, HFY.out, feedS_go _ _ hfd.out, HAF.out]))
                  go_wp2_with (first
                    | (go_at_call 37; refine Hc2.out.mono ?_; rintro e1 w1 ⟨now2, rfl, h2, h3, h4⟩; have hbs := (HBS.out w1 now2 set' h3).1; have z0 := hbs.cell j (bools_at HLS2.out); have zf := hbs.open_ j; have HW3 := Lib.hid (HSet.out w1 now2 set' j false h3); have HS3 := Lib.hid (HStS.out a2 w1 j false h2); have HG3 := Lib.hid h4; clear h2 h3 h4 hbs)
                    | fail)
                  rw [HSB.out] at HW3
                  exact hR.out _ _ now2 _ HFN.out HS3.out HW3.out HG3.out
theorem choose_upto (E : ChE α) (hE : ChOk E) : ∀ r, E.upto r
  | 0 => fun _ _ _ _ _ _ h _ => absurd h (Nat.not_lt_zero _)
  | r + 1 => choose_step E hE r (choose_upto E hE r)
theorem choose_calls (E : ChE α) (hE : ChOk E) (a : α) (w : World) (now : List Int) (set : List Bool) (hlv : E.live a) (hst : E.st a w) (hw : ChW E w now set) : Calls Try.prog 37 (E.args 0) w (RetCh E 0 a now set) :=
  choose_upto E hE (E.n + 1) 0 a w now set (Nat.zero_le _) (by omega) hlv hst hw (fun k hk => absurd hk (Nat.not_lt_zero _))
end Go.Proofs.Ytbapmokbkjmdcaa

namespace Go.Proofs.Ytbapmokbkjmdcaa
open Go.RowKit Go.Maps Go.Lib

/-- The numbers of a variable that have support in a constraint, as the document says. -/
def supG (D : List (List Int)) (c : Con) (v x : Int) : Bool := stillG c (updG (fun _ => none) v x) && !(chL [c] (fun i => decide ((i : Int) ∈ c.vars)) D 0 (updG (fun _ => none) v x)).isEmpty
def supR (D : List (List Int)) (c : Con) (v : Int) : List Int := if v ∈ c.vars then (dom D v).filter (supG D c v) else dom D v
theorem mem_supR {D : List (List Int)} {c : Con} (hok : c.ok D.length = true) {v x : Int} : x ∈ supR D c v ↔ x ∈ dom D v ∧ (v ∈ c.vars → Sup D c v x) := by
  unfold supR
  by_cases hv : v ∈ c.vars
  · rw [if_pos hv, List.mem_filter]
    constructor
    · rintro ⟨h1, h2⟩
      exact ⟨h1, fun _ => (sup_search hok hv h1 (asked := fun i => decide ((i : Int) ∈ c.vars)) (fun i => by simp)).1 h2⟩
    · rintro ⟨h1, h2⟩
      exact ⟨h1, (sup_search hok hv h1 (asked := fun i => decide ((i : Int) ∈ c.vars)) (fun i => by simp)).2 (h2 hv)⟩
  · rw [if_neg hv]
    exact ⟨fun h => ⟨h, fun k => absurd k hv⟩, fun h => h.1⟩
/-- Which variables the first ones of a list are. -/
def askL (n : Nat) (l : List Int) : List Bool := (List.range n).map fun k : Nat => decide ((k : Int) ∈ l)
theorem askL_len (n : Nat) (l : List Int) : (askL n l).length = n := by simp [askL]
theorem askL_get {n : Nat} {l : List Int} {k : Nat} (h : k < n) : (askL n l).getD k false = decide ((k : Int) ∈ l) := by
  rw [List.getD_eq_getElem?_getD, askL, List.getElem?_map, List.getElem?_range h]; rfl
theorem askL_nil (n : Nat) : askL n [] = List.replicate n false := by
  apply List.ext_getElem?
  intro i
  rw [askL, List.getElem?_map]
  by_cases hi : i < n
  · rw [List.getElem?_range hi, List.getElem?_replicate, if_pos hi]; rfl
  · rw [List.getElem?_eq_none (by simp; omega), List.getElem?_eq_none (by simp; omega)]; rfl
theorem askL_more (n : Nat) (l : List Int) (m : Nat) : (askL n l).set m true = askL n (l ++ [(m : Int)]) := by
  apply List.ext_getElem?
  intro i
  by_cases him : m = i
  · subst him
    by_cases hm : m < n
    · rw [List.getElem?_set_self (by rw [askL_len]; exact hm), askL, List.getElem?_map, List.getElem?_range hm]; simp
    · rw [List.getElem?_eq_none (by rw [List.length_set, askL_len]; omega), List.getElem?_eq_none (by rw [askL_len]; omega)]
  · rw [List.getElem?_set_ne him, askL, askL, List.getElem?_map, List.getElem?_map]
    by_cases hi : i < n
    · rw [List.getElem?_range hi]
      have : (i : Int) ≠ (m : Int) := by omega
      simp [this]
    · rw [List.getElem?_eq_none (by simp; omega)]; rfl
theorem askL_fun {c : Con} {n : Nat} (hok : c.ok n = true) : (fun k : Nat => (askL n c.vars).getD k false) = fun i : Nat => decide ((i : Int) ∈ c.vars) := by
  funext k
  by_cases hk : k < n
  · exact askL_get hk
  · rw [List.getD_eq_getElem?_getD, List.getElem?_eq_none (by rw [askL_len]; omega)]
    refine (decide_eq_false fun h => ?_).symm
    have := Con.ok_var hok h
    omega
theorem made_ints (n : Nat) : madeCells #[.int .i64 0] n = ints (List.replicate n 0) := by
  apply Array.ext'
  rw [toList_madeCells_one, ints]; simp
theorem made_bools (n : Nat) : madeCells #[.bool false] n = bools (List.replicate n false) := by
  apply Array.ext'
  rw [toList_madeCells_one, bools]; simp
theorem gOf_new {n vn : Nat} (h : vn < n) (y : Int) : gOf ((List.replicate n (0 : Int)).set vn y) ((List.replicate n false).set vn true) = updG (fun _ => none) (vn : Int) y := by
  rw [gOf_set (by simp; exact h) (by simp; exact h)]
  congr 1
  funext v
  rw [gOf, if_neg]
  rintro ⟨_, h2⟩
  rw [List.getD_eq_getElem?_getD, List.getElem?_replicate] at h2
  split at h2 <;> simp at h2

set_option maxHeartbeats 1000000 in
set_option maxRecDepth 100000 in
theorem sup1_calls (w : World) : Calls Try.prog 38 #[] w (RetStill (.bool false) w) := by
  have hR : Hid (RetStill (.bool false) w (.returned (.bool false)) w) := ⟨rfl, rfl⟩
  generalize RetStill (.bool false) w = Q at hR ⊢
  go_enter Try.func38, Try.ntmps38
  try simp only [List.append_eq, List.cons_append, List.nil_append]
  go_wp2_with fail
  exact hR.out

/-- Is there a choice for the other variables? -/
theorem sup_choose (x : Cn) (dp : Option Addr) (dc : Nat) (D : List (List Int)) (bA bN bS : Nat) (now : List Int) (set : List Bool) (wr W : World)
    (hx : x.In wr) (hD : RowsAt wr dp D) (hdl : D.length ≤ dc ∧ dc ≤ 9223372036854775807) (hok : x.con.ok D.length = true) (hfew : D.length ≤ 50) (hnear : ∀ d ∈ D, ∀ y ∈ d, Near y)
    (hA : BlkT wr bA 4 (bools (askL D.length x.vs))) (hg : Gr wr W) (gN : wr.heap.size ≤ bN) (gS : wr.heap.size ≤ bS) (hN : BlkT W bN 2 (ints now)) (hS : BlkT W bS 4 (bools set))
    (lN : now.length = D.length) (lS : set.length = D.length) (hn : ∀ y ∈ now, Near y) :
    Calls Try.prog 37 #[.slice dp D.length dc, .slice (some ⟨W.heap.size, 0, none⟩) 1 1, .slice (some ⟨bA, 0, none⟩) D.length D.length, .slice (some ⟨bS, 0, none⟩) D.length D.length, .int .i64 0, .slice (some ⟨bN, 0, none⟩) D.length D.length, .func (.func 38) #[] #[]]
      (W.alloc (.cells x.arr 42)) fun e w' => e = .returned (.bool (chL [x.con] (fun i => decide ((i : Int) ∈ x.con.vars)) D 0 (gOf now set)).isEmpty) ∧ Gr wr w' := by
  have gW : Gr W (W.alloc (.cells x.arr 42)) := by go_grown
  have hNl := hN.lt
  have hSl := hS.lt
  have hne : bN ≠ bS := OfT.ne (.of hN) (.of hS) (by decide)
  let E : ChE Unit := ⟨W.alloc (.cells x.arr 42), fun b => b = bN ∨ b = bS, bN, bS, D.length, 38, #[], fun _ _ => True, fun _ _ => ((), false), dp, dc, D, some ⟨W.heap.size, 0, none⟩, 1, [x], some ⟨bA, 0, none⟩, D.length, askL D.length x.vs, fun _ => True⟩
  have hbel : ∀ w', Kp E.C E.w1 w' → Gr wr w' := fun w' hk => Below.trans (hg.trans gW) (hk.below (fun b hb => by rcases hb with rfl | rfl <;> assumption) (hg.trans gW).size)
  have hC : BlkT E.w1 W.heap.size 42 x.arr := BlkT.new W _ _
  have hE : ChOk E := {
    inp := fun w' hk => {
      rows := hD.mono (hbel w' hk)
      lenD := hdl
      cns := .inr ⟨W.heap.size, 0, rfl, (hC.kp hk (by rintro (h | h) <;> omega)).lt, fun i y hy j v hv => by
        cases i with
        | zero =>
          cases hy
          rw [show 0 + (0 * 5 + j) = j by omega]
          exact (hC.kp hk (by rintro (h | h) <;> omega)).cell j hv
        | succ i =>
          have h2 : ([x] : List Cn)[i + 1]? = some y := hy
          simp at h2⟩
      lenC := ⟨Nat.le_refl _, by show 1 ≤ _; omega⟩
      ins := fun y hy => by
        rw [List.mem_singleton.1 hy]
        exact hx.mono (hbel w' hk)
      ask := by
        have := bools_sl (hA.gr (hbel w' hk)) (by rw [askL_len]; omega)
        rw [askL_len] at this
        exact this }
    cN := .inl rfl
    cS := .inr rfl
    ne := hne
    lenD := rfl
    lenA := askL_len _ _
    few := hfew
    ok := fun y hy => by rw [List.mem_singleton.1 hy]; exact hok
    near := hnear
    enter := fun w => by kernel_rfl
    call := fun a w' now' set' _ _ hw _ => (sup1_calls w').mono fun e w2 h => by
      obtain ⟨rfl, rfl⟩ := h
      exact ⟨rfl, trivial, hw⟩
    stable := fun _ _ _ h _ => h
    liv := fun _ _ _ _ => trivial }
  have hW : ChW E E.w1 now set := ⟨Kp.refl _ _, hN.gr gW, hS.gr gW, lN, lS, hn⟩
  refine (choose_calls E hE () E.w1 now set trivial trivial hW).mono ?_
  rintro e w' ⟨now', rfl, _, h3, _⟩
  refine ⟨?_, hbel w' h3.kp⟩
  have hl : E.leaves 0 (gOf now set) = chL [x.con] (fun i => decide ((i : Int) ∈ x.con.vars)) D 0 (gOf now set) := by
    show chL [x.con] (fun k : Nat => (askL D.length x.con.vars).getD k false) D 0 (gOf now set) = _
    rw [askL_fun hok]
  rw [← hl]
  have hf : ∀ L : List (Int → Option Int), (feedS E.step () L).2 = L.isEmpty := fun L => by
    cases L with
    | nil => rfl
    | cons g L => rfl
  rw [hf]
end Go.Proofs.Ytbapmokbkjmdcaa
