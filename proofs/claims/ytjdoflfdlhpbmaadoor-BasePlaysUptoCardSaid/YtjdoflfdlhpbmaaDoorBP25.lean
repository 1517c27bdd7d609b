/-
  hornref.Base's View.
  Maps that are ranged over: when each entry was laid, how many there are; what is met in a range.
-/
import Derived.Test.YtjdoflfdlhpbmaaDoorBP24
import Derived.Test.YtjdoflfdlhpbmaaDoorBP19
import Derived.Deep.CutRange
import Derived.Deep.CutBlock
import Derived.Test.YtjdoflfdlhpbmaaDoorBP06
import Derived.Maps.RangeRun
namespace Go.Proofs.YtjdoflfdlhpbmaaDoor
open Go.RowKit Go.Maps Go.Lib

/-- What the document's view tells. -/
def viewP (g : T) (x : HrT) : Bool := x.t && (x.h.isOf g.s (g.l.length : Int) && letsT g x.h)
theorem viewP_eq {g : T} {R : List HrT} (hc : ∀ x ∈ R, x.h.callable = true) : R.filter (viewP g) = viewR g R := by
  rw [viewR]
  refine List.filter_congr fun x hx => ?_
  have h1 := hc x hx
  rw [T.callable] at h1
  have h2 : x.h.isOf g.s (g.l.length : Int) = decide (keyT x.h = keyT g) := by
    rw [T.isOf, Bool.or_comm, h1, Bool.true_and, Bool.eq_iff_iff]
    simp only [Bool.and_eq_true, decide_eq_true_eq]
    have := key_iff (h := x.h) (s := ⟨g.s.toArray⟩) (n := (g.l.length : Int))
    rw [ByteArray.toList_mk] at this
    exact this.symm
  rw [viewP, HrT.of, h2, Bool.and_assoc]
theorem viewP_tm (G yh yb : Tm) (yi : Int) (yt : Bool) : viewP G.erase (Hr.er ⟨yi, yh, yb, yt⟩) = (yt && (yh.erase.isOf G.s.toList (G.l.length : Int) && letsT G.erase yh.erase)) := by
  have e1 : G.erase.s = G.s.toList := by obtain ⟨k, n, s, p, c, l⟩ := G; rfl
  have e2 : (G.erase.l.length : Int) = (G.l.length : Int) := by rw [erase_l, Tm.eraseL_length]
  rw [viewP, e1, e2]
  rfl
theorem Blk4.set3 {w : World} {b : Nat} {v0 v1 v2 v3 : Value} (h : Blk4 w b v0 v1 v2 v3) (u : Value) : Blk4 (w.setCell ⟨b, 3, none⟩ u) b v0 v1 v2 u := heap_setCell_same _ b 3 _ _ u h
theorem first_arg {t : Tm} {w : World} (ht : t.In w) (h1 : 0 < t.l.length) : ∃ (b o : Nat) (x : Tm) (xs : List Tm), t.p = some ⟨b, o, none⟩ ∧ t.l = x :: xs ∧ b < w.heap.size ∧ w.cell? ⟨b, o, none⟩ = some (.int .i64 x.k) ∧ w.cell? ⟨b, o + 1, none⟩ = some (.int .i64 x.n) ∧ w.cell? ⟨b, o + 2, none⟩ = some (.string x.s) ∧ w.cell? ⟨b, o + 3, none⟩ = some (.slice x.p x.l.length x.c) ∧ x.s.size ≤ 140737488351232 ∧ In64 x.k ∧ In64 x.n := by
  obtain ⟨k, n, s, p, c, l⟩ := t
  simp only [Tm.l] at h1
  obtain ⟨b, o, rfl⟩ := ht.sl.ptr h1
  obtain ⟨⟨x0, x1, x2, x3⟩, hi, _⟩ := ht.sl.elem 0 h1
  match l, h1 with
  | x :: xs, h1 =>
    simp only [List.getElem_cons_zero, Nat.zero_mul, Nat.add_zero] at x0 x1 x2 x3 hi
    obtain ⟨k', n', s', p', c', l'⟩ := x
    rw [Tm.In] at hi
    exact ⟨b, o, _, xs, rfl, rfl, World.block_lt_of_cell? _ _ x0, x0, x1, x2, x3, hi.2.2.1, hi.1, hi.2.1⟩
/-- A term without its Args. -/
def bareTm (x : Tm) : Tm := .mk x.k x.n x.s none 0 []
theorem bareTm_val (x : Tm) : (bareTm x).val = .agg #[.int .i64 x.k, .int .i64 x.n, .string x.s, .slice none 0 0] := rfl
theorem bareTm_in {x : Tm} {w : World} (h1 : x.s.size ≤ 140737488351232) (h2 : In64 x.k) (h3 : In64 x.n) : (bareTm x).In w := by
  rw [bareTm, Tm.In]
  exact ⟨h2, h3, h1, Nat.le_refl _, ⟨by simp, by omega⟩, .inl rfl, by rw [Tm.InL]; trivial⟩
theorem bare_same (x z : Tm) : T.same (bareTm x).erase (bareTm z).erase = ((x.k == z.k) && (x.n == z.n) && (x.s.toList == z.s.toList)) := by
  rw [bareTm, bareTm, Tm.erase, Tm.erase, Tm.eraseL, T.same, T.sameL, Bool.eq_iff_iff]
  · simp [and_assoc]
  · intro _ _ _ _ h; cases h
theorem lets_args {G y : Tm} {x z : Tm} {xs zs : List Tm} (h1 : G.l = x :: xs) (h2 : y.l = z :: zs) : letsT G.erase y.erase = ((x.k == 1) || ((z.k == 1) || (((x.k == z.k) && (x.n == z.n) && (x.s.toList == z.s.toList)) && ((x.l.length : Int) == (z.l.length : Int))))) := by
  obtain ⟨k, n, s, p, c, l⟩ := G
  obtain ⟨k', n', s', p', c', l'⟩ := y
  simp only [Tm.l] at h1 h2
  subst h1 h2
  rw [Tm.erase, Tm.erase, Tm.eraseL, Tm.eraseL, letsT]
  show letsArg x.erase z.erase = _
  rw [← letsTm_eq]
  rfl
theorem isOf_len {y : Tm} {s : List UInt8} {n : Int} (h : y.erase.isOf s n = true) : (y.l.length : Int) = n := by
  rw [T.isOf, Bool.and_eq_true, decide_eq_true_eq, erase_l, Tm.eraseL_length] at h
  exact h.2
theorem lets_none {G h : T} (hg : G.l = []) : letsT G h = true := by rw [letsT, hg]
/-- What View hands back. -/
def RetRView (S : Nat → Prop) (g : T) (L : List Hr) (w : World) (e : Ending) (w' : World) : Prop :=
  ∃ (p' : Option Addr) (c' : Nat) (M : List Hr), e = .returned (.slice p' M.length c') ∧ M = L.filter (fun x => viewP g x.er) ∧ HrSl (fun x => S x ∨ w.heap.size ≤ x) w' p' c' M ∧ Gr w w'

set_option maxHeartbeats 8000000 in
set_option maxRecDepth 100000 in
theorem rView_calls (S : Nat → Prop) (R : Nat) (p : Option Addr) (c : Nat) (L : List Hr) (G : Tm) (w : World) (hr : RefG S w R p c L) (hG : G.In w) (hl : L.length ≤ 8388607) :
    Calls Tryd.prog 73 #[.pointer (some ⟨R, 0, none⟩), G.val] w (RetRView S G.erase L w) := by
  have hR : Hid (∀ B0 v w', w.heap.size ≤ B0 → w'.ownsRow B0 75 10 v (L.filter fun x => viewP G.erase x.er).length ((L.filter fun x => viewP G.erase x.er).flatMap Hr.cells) → Gr w w' → RetRView S G.erase L w (.returned v) w') := fun B0 v w' hB0 h1 h2 => by
    have hels : ∀ x ∈ L.filter (fun x => viewP G.erase x.er), x.h.In w' ∧ x.b.In w' ∧ x.h.erase.formed = true ∧ x.b.erase.formed = true ∧ x.h.On (fun b => S b ∨ w.heap.size ≤ b) ∧ x.b.On (fun b => S b ∨ w.heap.size ≤ b) := fun x hx => by
      obtain ⟨h3, h4, h5, h6, h7, h8⟩ := hr.sl.els x (List.mem_filter.1 hx).1
      exact ⟨Tm.In_below h2 h3, Tm.In_below h2 h4, h5, h6, h7.mono fun b hb => .inl hb, h8.mono fun b hb => .inl hb⟩
    obtain ⟨pX, cX, rfl, hslX⟩ := HrSl.of_own (S := fun b => S b ∨ w.heap.size ≤ b) h1 (fun j h1 _ => .inr (Nat.le_trans hB0 h1)) (by have := List.length_filter_le (fun x => viewP G.erase x.er) L; omega) hels
    exact ⟨pX, cX, _, rfl, rfl, hslX, h2⟩
  generalize RetRView S G.erase L w = Q at hR ⊢
  have H := Lib.hid hr
  have HG := Lib.hid hG
  have hlc := hr.sl.len
  have hcm := hr.sl.cap
  clear hr hG
  have HV := Lib.hid (show G.val = .agg #[.int .i64 G.k, .int .i64 G.n, .string G.s, .slice G.p G.l.length G.c] from rfl)
  rw [HV.out]
  go_enter Tryd.func73, Tryd.ntmps73
  try simp only [List.append_eq, List.cons_append, List.nil_append]
  go_upto_region 1 with fail
  have hN := Blk4.new w (.int .i64 G.k) (.int .i64 G.n) (.string G.s) (.slice G.p G.l.length G.c)
  have gA : Gr w (w.alloc (.cells #[.int .i64 G.k, .int .i64 G.n, .string G.s, .slice G.p G.l.length G.c] 34)) := by go_grown
  generalize w.alloc (.cells #[.int .i64 G.k, .int .i64 G.n, .string G.s, .slice G.p G.l.length G.c] 34) = wA at *
  have HN := Lib.hid hN
  have hlA : w.heap.size < wA.heap.size := hN.parts.2.2
  clear hN
  have hf0 : Hid (L.filter (fun x => viewP G.erase x.er) = (L.take L.length).filter fun x => viewP G.erase x.er) := by show _ = _; rw [List.take_length]
  have hfs : Hid (∀ k (hk : k < L.length), (L.take (k + 1)).filter (fun x => viewP G.erase x.er) = (L.take k).filter (fun x => viewP G.erase x.er) ++ if viewP G.erase L[k].er then [L[k]] else []) := fun k hk => by
    rw [List.take_succ_eq_append_getElem hk, List.filter_append, List.filter_cons]
    cases viewP G.erase L[k].er <;> rfl
  have hfl : Hid (∀ k, ((L.take k).filter fun x => viewP G.erase x.er).length ≤ L.length) := fun k => Nat.le_trans (List.length_filter_le _ _) (by rw [List.length_take]; omega)
  go_wp2_with fail
  go_loopg [5, 6] L.length (fun m u i wr => ∃ (k : Nat) (v : Value), v = u ∧ k ≤ L.length ∧ m = L.length - k ∧ i = .int .i64 k ∧ Hid (wr.ownsRow wA.heap.size 75 10 v ((L.take k).filter fun x => viewP G.erase x.er).length (((L.take k).filter fun x => viewP G.erase x.er).flatMap Hr.cells)) ∧ Hid (Blk4 wr w.heap.size (.int .i64 G.k) (.int .i64 G.n) (.string G.s) (.slice G.p G.l.length G.c)) ∧ Gr wA wr)
  case atStart => exact ⟨0, _, rfl, Nat.zero_le _, rfl, rfl, World.ownsRow_nil _ _ _ 10, HN, Gr.rfl' _⟩
  case round =>
    obtain ⟨k, v, rfl, hk, rfl, rfl, ho, hbg, grA⟩ := hrel
    have gr : Gr w wr := gA.trans grA
    have hb0 := (H.out.blk.gr gr).cell 0 (v := .slice p L.length c) rfl
    obtain ⟨⟨g0, g1, g2, g3⟩, _, hlg⟩ := hbg.out.parts
    by_cases hlt : k < L.length
    · obtain ⟨b, o, rfl⟩ := H.out.sl.ptr (by omega)
      have Hc : Hid (∀ W, Gr w W → ∀ j v, (L[k].cells)[j]? = some v → W.cell? ⟨b, o + k * 10 + j, none⟩ = some v) := fun W hW j v hv => Gr.at hW (H.out.sl.elem k hlt j v hv)
      have c0 := Gr.at gr (H.out.sl.elem0 k hlt)
      have c1 := Hc.out wr gr 1 _ rfl
      have c2 := Hc.out wr gr 2 _ rfl
      have c3 := Hc.out wr gr 3 _ rfl
      have c4 := Hc.out wr gr 4 _ rfl
      have c9 := Hc.out wr gr 9 _ rfl
      have Hi := Lib.hid (H.out.sl.els _ (List.getElem_mem hlt)).1
      have Hs := Lib.hid (hfs.out k hlt)
      have Hle := Lib.hid (hfl.out k)
      generalize L[k] = y at *
      obtain ⟨yi, yh, yb, yt⟩ := y
      simp only [Hr.cells, Tm.cells, List.cons_append, List.nil_append] at c0 c1 c2 c3 c4 c9 Hi Hc
      go_upto_region 6 with fail
      have hN := Blk4.new wr (.int .i64 yh.k) (.int .i64 yh.n) (.string yh.s) (.slice yh.p yh.l.length yh.c)
      have gE : Gr wr (wr.alloc (.cells #[.int .i64 yh.k, .int .i64 yh.n, .string yh.s, .slice yh.p yh.l.length yh.c] 34)) := by go_grown
      have hlE : wr.heap.size < (wr.alloc (.cells #[.int .i64 yh.k, .int .i64 yh.n, .string yh.s, .slice yh.p yh.l.length yh.c] 34)).heap.size := by simp
      generalize wr.alloc (.cells #[.int .i64 yh.k, .int .i64 yh.n, .string yh.s, .slice yh.p yh.l.length yh.c] 34) = wE at *
      generalize wr.heap.size = BH at *
      have HH := Lib.hid hN
      have GE := Lib.hid (gr.trans gE)
      have GEA := Lib.hid (Gr.trans grA gE)
      have HO := Lib.hid (ownsRow_gr ho.out gE)
      have HBG := Lib.hid (hbg.out.gr gE)
      replace hb0 := Gr.at gE hb0
      replace c0 := Gr.at gE c0
      replace c9 := Gr.at gE c9
      clear hN c1 c2 c3 c4 g0 g1 g2 g3
      obtain ⟨⟨g0, g1, g2, g3⟩, _, _⟩ := HBG.out.parts
      obtain ⟨⟨e0, e1, e2, e3⟩, _, _⟩ := HH.out.parts
      cases yt with
      | false =>
        have hgE := GE.out
        go_wp2_with fail
        go_roundg (L.length - (k + 1))
        case measure => omega
        case rel => exact ⟨k + 1, v, rfl, by omega, rfl, by go_num, by rw [Hs.out, if_neg (by rw [viewP_tm]; simp), List.append_nil]; exact HO, HBG, GEA.out⟩
      | true =>
        obtain ⟨bb, hbb⟩ : ∃ bb, yh.erase.isOf G.s.toList (G.l.length : Int) = bb := ⟨_, rfl⟩
        have Hbb := Lib.hid hbb
        clear hbb
        have HVh := Lib.hid (show yh.val = .agg #[.int .i64 yh.k, .int .i64 yh.n, .string yh.s, .slice yh.p yh.l.length yh.c] from rfl)
        go_upto_if 48 with (first
          | (go_at_call 47; rewrite [← HVh.out]; refine (ris_calls yh G.s (G.l.length : Int) _).mono ?_; rintro e w2 ⟨rfl, hg⟩; rewrite [Hbb.out]; have G2 := Lib.hid hg; clear hg g0 g1 g2 g3 e0 e1 e2 e3 hb0 c0 c9)
          | fail)
        have Ge2 := Lib.hid (Gr.trans GE.out G2.out)
        have Ge2A := Lib.hid (Gr.trans GEA.out G2.out)
        have HO2 := Lib.hid (ownsRow_gr HO.out G2.out)
        have HBG2 := Lib.hid (HBG.out.gr G2.out)
        have HH2 := Lib.hid (HH.out.gr G2.out)
        cases bb with
        | false =>
          go_wp2_with fail
          go_roundg (L.length - (k + 1))
          case measure => omega
          case rel => exact ⟨k + 1, v, rfl, by omega, rfl, by go_num, by rw [Hs.out, if_neg (by rw [viewP_tm, Hbb.out]; simp), List.append_nil]; exact HO2, HBG2, Ge2A.out⟩
        | true =>
          obtain ⟨⟨g0, g1, g2, g3⟩, _, _⟩ := HBG2.out.parts
          obtain ⟨⟨e0, e1, e2, e3⟩, _, _⟩ := HH2.out.parts
          go_upto_if 52 with fail
          go_cut [8] from 52 to 91 (fun v8 wx => v8 = .bool (letsT G.erase yh.erase) ∧ Gr w2 wx)
          case first =>
            by_cases hG0 : G.l.length = 0
            · have hlet := Lib.hid (lets_none (h := yh.erase) (show G.erase.l = [] by rw [erase_l, List.eq_nil_of_length_eq_zero hG0, Tm.eraseL]))
              have hd : decide ((0 : Nat) < G.l.length) = false := by rw [hG0]; rfl
              go_wp2_with fail
              go_meet
              exact ⟨by rw [hlet.out], Gr.rfl' _⟩
            · have hd : decide ((0 : Nat) < G.l.length) = true := decide_eq_true (by omega)
              have hly : 0 < yh.l.length := by have := isOf_len Hbb.out; omega
              obtain ⟨b1, o1, x, xs, hp1, hx1, hb1, x0, x1, x2, x3, sx, kx, nx⟩ := first_arg HG.out (by omega)
              obtain ⟨b2, o2, z, zs, hp2, hz1, hb2, z0, z1, z2, z3, sz, kz, nz⟩ := first_arg Hi.out hly
              have HLa := Lib.hid (lets_args hx1 hz1)
              have Hbx := Lib.hid (And.intro sx (And.intro kx nx))
              have Hbz := Lib.hid (And.intro sz (And.intro kz nz))
              have hs2 := Ge2.out.size
              have hBH2 : BH < w2.heap.size := (HH2.out.parts).2.2
              have hBG2 : w.heap.size < w2.heap.size := (HBG2.out.parts).2.2
              replace x0 := Gr.at Ge2.out x0
              replace x1 := Gr.at Ge2.out x1
              replace x2 := Gr.at Ge2.out x2
              replace x3 := Gr.at Ge2.out x3
              replace z0 := Gr.at Ge2.out z0
              replace z1 := Gr.at Ge2.out z1
              replace z2 := Gr.at Ge2.out z2
              replace z3 := Gr.at Ge2.out z3
              have n1 : ¬ w2.heap.size ≤ b1 := by omega
              have n2 : ¬ w2.heap.size ≤ b2 := by omega
              have nG : ¬ w2.heap.size ≤ w.heap.size := by omega
              have nH : ¬ w2.heap.size ≤ BH := by omega
              rw [hp1] at g3
              rw [hp2] at e3
              clear hx1 hz1 hp1 hp2 sx kx nx sz kz nz hs2
              go_upto_region 9 with fail
              refine wp_region_relyA 12 [fx (.pointer (some ⟨w.heap.size, 3, none⟩)), fx (.slice (some ⟨b1, o1, none⟩) G.l.length G.c), fx (.pointer (some ⟨b1, o1, none⟩)), fx (.agg #[.int .i64 x.k, .int .i64 x.n, .string x.s, .slice x.p x.l.length x.c]), fx (.pointer (some ⟨BH, 3, none⟩)), fx (.slice (some ⟨b2, o2, none⟩) yh.l.length yh.c), fx (.pointer (some ⟨b2, o2, none⟩)), fx (.agg #[.int .i64 z.k, .int .i64 z.n, .string z.s, .slice z.p z.l.length z.c]), ptrV, ptrV, fx undef, fx undef]
                (Kp (fun b => w2.heap.size ≤ b)) (LateJ w2.heap.size [⟨8, 9, 10, x⟩, ⟨9, 10, 11, z⟩] 12 104) (by kernel_rfl) (by kernel_rfl) (by decide) (by kernel_rfl) (fun _ _ h => Kp.of_gr h) (fun _ _ _ h k => Kp.trans h k) (fun w _ => LateJ.start _ _ _ _ _ w rfl) (by repeat (first | exact StableR.nil | refine StableR.fix ?_ | refine StableR.cons ptrV_stable ?_)) ?_ ?_
              · refine ⟨stepA_plain (fun _ _ h => Kp.of_gr h) (fun listed a w w' v h hg => LateJ.other rfl listed a w w' v h hg) ?_, stepA_plain (fun _ _ h => Kp.of_gr h) (fun listed a w w' v h hg => LateJ.other rfl listed a w w' v h hg) ?_, stepA_plain (fun _ _ h => Kp.of_gr h) (fun listed a w w' v h hg => LateJ.other rfl listed a w w' v h hg) ?_, stepA_plain (fun _ _ h => Kp.of_gr h) (fun listed a w w' v h hg => LateJ.other rfl listed a w w' v h hg) ?_, stepA_plain (fun _ _ h => Kp.of_gr h) (fun listed a w w' v h hg => LateJ.other rfl listed a w w' v h hg) ?_, stepA_plain (fun _ _ h => Kp.of_gr h) (fun listed a w w' v h hg => LateJ.other rfl listed a w w' v h hg) ?_, stepA_plain (fun _ _ h => Kp.of_gr h) (fun listed a w w' v h hg => LateJ.other rfl listed a w w' v h hg) ?_, stepA_plain (fun _ _ h => Kp.of_gr h) (fun listed a w w' v h hg => LateJ.other rfl listed a w w' v h hg) ?_, ?a8, ?a9, ?a10, ?a11, trivial⟩
                case a8 =>
                  intro listed fr ww hj hl hpre hg hdef hold
                  have h3 : fr.tmps[3]?.getD undef = .pointer (some ⟨w.heap.size, 0, none⟩) := hold 3 rfl
                  have h7 : fr.tmps[7]?.getD undef = .pointer (some ⟨BH, 0, none⟩) := hold 7 rfl
                  have y3 := Kp.cell hg g3 nG
                  have y7 := Kp.cell hg e3 nH
                  have s0 := Kp.cell hg x0 n1
                  have s1 := Kp.cell hg x1 n1
                  have s2 := Kp.cell hg x2 n1
                  have s3 := Kp.cell hg x3 n1
                  have t0 := Kp.cell hg z0 n2
                  have t1 := Kp.cell hg z1 n2
                  have t2 := Kp.cell hg z2 n2
                  have t3 := Kp.cell hg z3 n2
                  have Hg := Lib.hid hg
                  clear hold g0 g1 g2 g3 e0 e1 e2 e3 x0 x1 x2 x3 z0 z1 z2 z3
                  have hl := getD_tf hl
                  clear hdef
                  simp only [predsImp]
                  intro K hK
                  go_simp
                  exact hK _ _ ⟨_, rfl⟩ (Kp.of_gr (by go_grown)) (LateJ.alloc rfl hj hl (by go_grown) hg.size (Nat.le_refl _) (by simp) (Blk4.new _ _ _ _ _) (show (9 : Nat) < 104 by decide) (show (8 : Nat) < 12 by decide))
                case a9 =>
                  intro listed fr ww hj hl hpre hg hdef hold
                  have h3 : fr.tmps[3]?.getD undef = .pointer (some ⟨w.heap.size, 0, none⟩) := hold 3 rfl
                  have h7 : fr.tmps[7]?.getD undef = .pointer (some ⟨BH, 0, none⟩) := hold 7 rfl
                  have y3 := Kp.cell hg g3 nG
                  have y7 := Kp.cell hg e3 nH
                  have s0 := Kp.cell hg x0 n1
                  have s1 := Kp.cell hg x1 n1
                  have s2 := Kp.cell hg x2 n1
                  have s3 := Kp.cell hg x3 n1
                  have t0 := Kp.cell hg z0 n2
                  have t1 := Kp.cell hg z1 n2
                  have t2 := Kp.cell hg z2 n2
                  have t3 := Kp.cell hg z3 n2
                  have Hg := Lib.hid hg
                  clear hold g0 g1 g2 g3 e0 e1 e2 e3 x0 x1 x2 x3 z0 z1 z2 z3
                  have hl := getD_tf hl
                  clear hdef
                  simp only [predsImp]
                  intro K hK
                  go_simp
                  exact hK _ _ ⟨_, rfl⟩ (Kp.of_gr (by go_grown)) (LateJ.alloc rfl hj hl (by go_grown) hg.size (Nat.le_refl _) (by simp) (Blk4.new _ _ _ _ _) (show (10 : Nat) < 104 by decide) (show (9 : Nat) < 12 by decide))
                case a10 =>
                  intro listed fr ww hj hl hpre hg hdef hold
                  have h3 : fr.tmps[3]?.getD undef = .pointer (some ⟨w.heap.size, 0, none⟩) := hold 3 rfl
                  have h7 : fr.tmps[7]?.getD undef = .pointer (some ⟨BH, 0, none⟩) := hold 7 rfl
                  have y3 := Kp.cell hg g3 nG
                  have y7 := Kp.cell hg e3 nH
                  have s0 := Kp.cell hg x0 n1
                  have s1 := Kp.cell hg x1 n1
                  have s2 := Kp.cell hg x2 n1
                  have s3 := Kp.cell hg x3 n1
                  have t0 := Kp.cell hg z0 n2
                  have t1 := Kp.cell hg z1 n2
                  have t2 := Kp.cell hg z2 n2
                  have t3 := Kp.cell hg z3 n2
                  have Hg := Lib.hid hg
                  clear hold g0 g1 g2 g3 e0 e1 e2 e3 x0 x1 x2 x3 z0 z1 z2 z3
                  have hl := getD_tf hl
                  clear hdef
                  simp [predsImp, Region.binds, dstAt, fx]
                  intros
                  rename_i K hK
                  obtain ⟨B, hB, hB0, hBl, hz, -⟩ := hj.blk ⟨8, 9, 10, x⟩ (by simp) (hpre ⟨8, Ground.data⟩ (by simp) rfl)
                  simp only at hB hz
                  have Hz := Lib.hid (hz hl)
                  obtain ⟨⟨p0, p1, p2, p3⟩, ⟨f0, f1, f2, f3⟩, _⟩ := (hz hl).parts
                  clear hz
                  go_simp
                  exact hK _ _ rfl (Kp.sets hB0 _ _ _ _) (LateJ.store (x0 := ⟨8, 9, 10, x⟩) (by simp) rfl rfl (by intro x hx h; simp only [List.mem_cons, List.mem_nil_iff, or_false] at hx; rcases hx with rfl | rfl <;> first | rfl | exact absurd h (show ¬ ((9 : Nat) = 8) by decide)) hj (hpre ⟨8, Ground.data⟩ (by simp) rfl) hB (Kp.sets (C := (· = B)) rfl _ _ _ _) (Blk4.sets Hz.out _ _ _ _) _ (show (10 : Nat) < 12 by decide))
                case a11 =>
                  intro listed fr ww hj hl hpre hg hdef hold
                  have h3 : fr.tmps[3]?.getD undef = .pointer (some ⟨w.heap.size, 0, none⟩) := hold 3 rfl
                  have h7 : fr.tmps[7]?.getD undef = .pointer (some ⟨BH, 0, none⟩) := hold 7 rfl
                  have y3 := Kp.cell hg g3 nG
                  have y7 := Kp.cell hg e3 nH
                  have s0 := Kp.cell hg x0 n1
                  have s1 := Kp.cell hg x1 n1
                  have s2 := Kp.cell hg x2 n1
                  have s3 := Kp.cell hg x3 n1
                  have t0 := Kp.cell hg z0 n2
                  have t1 := Kp.cell hg z1 n2
                  have t2 := Kp.cell hg z2 n2
                  have t3 := Kp.cell hg z3 n2
                  have Hg := Lib.hid hg
                  clear hold g0 g1 g2 g3 e0 e1 e2 e3 x0 x1 x2 x3 z0 z1 z2 z3
                  have hl := getD_tf hl
                  clear hdef
                  simp [predsImp, Region.binds, dstAt, fx]
                  intros
                  rename_i K hK
                  obtain ⟨B, hB, hB0, hBl, hz, -⟩ := hj.blk ⟨9, 10, 11, z⟩ (by simp) (hpre ⟨9, Ground.data⟩ (by simp) rfl)
                  simp only at hB hz
                  have Hz := Lib.hid (hz hl)
                  obtain ⟨⟨p0, p1, p2, p3⟩, ⟨f0, f1, f2, f3⟩, _⟩ := (hz hl).parts
                  clear hz
                  go_simp
                  exact hK _ _ rfl (Kp.sets hB0 _ _ _ _) (LateJ.store (x0 := ⟨9, 10, 11, z⟩) (by simp) rfl rfl (by intro x hx h; simp only [List.mem_cons, List.mem_nil_iff, or_false] at hx; rcases hx with rfl | rfl <;> first | rfl | exact absurd h (show ¬ ((8 : Nat) = 9) by decide)) hj (hpre ⟨9, Ground.data⟩ (by simp) rfl) hB (Kp.sets (C := (· = B)) rfl _ _ _ _) (Blk4.sets Hz.out _ _ _ _) _ (show (11 : Nat) < 12 by decide))
                all_goals
                  intro fr ww hg hold
                  have h3 : fr.tmps[3]?.getD undef = .pointer (some ⟨w.heap.size, 0, none⟩) := hold 3 rfl
                  have h7 : fr.tmps[7]?.getD undef = .pointer (some ⟨BH, 0, none⟩) := hold 7 rfl
                  have y3 := Kp.cell hg g3 nG
                  have y7 := Kp.cell hg e3 nH
                  have s0 := Kp.cell hg x0 n1
                  have s1 := Kp.cell hg x1 n1
                  have s2 := Kp.cell hg x2 n1
                  have s3 := Kp.cell hg x3 n1
                  have t0 := Kp.cell hg z0 n2
                  have t1 := Kp.cell hg z1 n2
                  have t2 := Kp.cell hg z2 n2
                  have t3 := Kp.cell hg z3 n2
                  have Hg := Lib.hid hg
                  clear hold g0 g1 g2 g3 e0 e1 e2 e3 x0 x1 x2 x3 z0 z1 z2 z3
                  simp [predsImp, Region.binds, dstAt, fx]
                  intros
                  rename_i K hK
                  go_simp
                all_goals exact hK _ _ rfl (Gr.rfl' _)
              · intro w9 hg
                rintro _ rfl _ rfl _ rfl _ rfl _ rfl _ rfl _ rfl _ rfl _ ⟨P1, rfl⟩ _ ⟨P2, rfl⟩ _ rfl _ rfl hap
                simp only [Act.put, List.setIfInBounds_toArray, List.set_cons_succ, List.set_cons_zero, List.drop_succ_cons, List.drop_zero] at hap ⊢
                obtain ⟨B1, hP1⟩ := hap.done (x := ⟨8, 9, 10, x⟩) (by simp) (by show 8 < 12; omega) (by show 10 < 12; omega) rfl
                obtain ⟨B2, hP2⟩ := hap.done (x := ⟨9, 10, 11, z⟩) (by simp) (by show 9 < 12; omega) (by show 11 < 12; omega) rfl
                have hPP : P1 ≠ P2 := hap.two (x := ⟨8, 9, 10, x⟩) (y := ⟨9, 10, 11, z⟩) (by simp) (by simp) (show (8 : Nat) ≠ 9 by decide) (by show 8 < 12; omega) (by show 9 < 12; omega) rfl rfl
                have g9 : Gr w2 w9 := hg.below (fun b hb => hb) (Nat.le_refl _)
                obtain ⟨⟨p0, p1, p2, p3⟩, ⟨f0, f1, f2, f3⟩, _⟩ := Blk4.parts B1
                obtain ⟨⟨q0, q1, q2, q3⟩, ⟨h0, h1, h2, h3⟩, _⟩ := Blk4.parts B2
                have K1 := (Blk4.set3 B1 (.slice none 0 0))
                have kk1 : Kp (fun j => j = P1) w9 (w9.setCell ⟨P1, 3, none⟩ (.slice none 0 0)) := Kp.set (C := fun j => j = P1) rfl
                have K2 := Blk4.set3 (Blk4.kp B2 kk1 (fun e => hPP e.symm)) (.slice none 0 0)
                have kk2 : Kp (fun j => j = P2) (w9.setCell ⟨P1, 3, none⟩ (.slice none 0 0)) ((w9.setCell ⟨P1, 3, none⟩ (.slice none 0 0)).setCell ⟨P2, 3, none⟩ (.slice none 0 0)) := Kp.set (C := fun j => j = P2) rfl
                have K1' := Blk4.kp K1 kk2 hPP
                have kz : Kp (fun j => w2.heap.size ≤ j) w2 _ := (hg.trans (kk1.mono fun j e => by have e : j = P1 := e; omega)).trans (kk2.mono fun j e => by have e : j = P2 := e; omega)
                clear hap hg B1 B2
                go_upto_region 11 with fail
                generalize (w9.setCell ⟨P1, 3, none⟩ (.slice none 0 0)).setCell ⟨P2, 3, none⟩ (.slice none 0 0) = wF at *
                clear p0 p1 p2 p3 f0 f1 f2 f3 q0 q1 q2 q3 h0 h1 h2 h3 kk1 kk2 K1
                obtain ⟨⟨p0, p1, p2, p3⟩, _, _⟩ := Blk4.parts K1'
                obtain ⟨⟨q0, q1, q2, q3⟩, _, _⟩ := Blk4.parts K2
                replace g3 := kz.cell g3 nG
                replace e3 := kz.cell e3 nH
                replace x3 := kz.cell x3 n1
                replace z3 := kz.cell z3 n2
                have gF := Lib.hid (kz.below (B := w2.heap.size) (fun j h => h) (Nat.le_refl _))
                clear g0 g1 g2 e0 e1 e2 x0 x1 x2 z0 z1 z2 K1' K2 kz
                obtain ⟨sm, hsm⟩ : ∃ sm, ((x.k == z.k) && (x.n == z.n) && (x.s.toList == z.s.toList)) = sm := ⟨_, rfl⟩
                obtain ⟨le, hle⟩ : ∃ le, ((x.l.length : Int) == (z.l.length : Int)) = le := ⟨_, rfl⟩
                have Hsm := Lib.hid ((bare_same x z).trans hsm)
                have HLa2 : Hid (letsT G.erase yh.erase = ((x.k == 1) || ((z.k == 1) || (sm && le)))) := by show _ = _; rw [HLa.out, hsm, hle]
                have Hxv := Lib.hid (bareTm_val x)
                have Hzv := Lib.hid (bareTm_val z)
                clear hsm
                cases sm with
                | true =>
                  refine wp_region_rely [fx (.agg #[.int .i64 x.k, .int .i64 x.n, .string x.s, .slice none 0 0]), fx (.agg #[.int .i64 z.k, .int .i64 z.n, .string z.s, .slice none 0 0]), fx (.bool true), fx (.bool true), fx (.pointer (some ⟨w.heap.size, 3, none⟩)), fx (.slice (some ⟨b1, o1, none⟩) G.l.length G.c), fx (.pointer (some ⟨b1, o1, none⟩)), fx (.pointer (some ⟨b1, o1 + 3, none⟩)), fx (.slice x.p x.l.length x.c), fx (.int .i64 x.l.length), fx (.pointer (some ⟨BH, 3, none⟩)), fx (.slice (some ⟨b2, o2, none⟩) yh.l.length yh.c), fx (.pointer (some ⟨b2, o2, none⟩)), fx (.pointer (some ⟨b2, o2 + 3, none⟩)), fx (.slice z.p z.l.length z.c), fx (.int .i64 z.l.length), fx (.bool le), fx (.bool le), fx (.bool le)]
                    (by kernel_rfl) (by kernel_rfl) (by repeat (first | exact Stable.nil | refine Stable.fix ?_)) ?_ ?_
                  · refine ⟨?_, ?_, ?a2, ?_, ?_, ?_, ?_, ?_, ?_, ?_, ?_, ?_, ?_, ?_, ?_, ?_, ?_, ?_, ?_, trivial⟩
                    all_goals
                      intro a ww hg hold
                      have h3 : a.tmps[3]?.getD undef = .pointer (some ⟨w.heap.size, 0, none⟩) := hold 3 rfl
                      have h7 : a.tmps[7]?.getD undef = .pointer (some ⟨BH, 0, none⟩) := hold 7 rfl
                      have h9 : a.tmps[9]?.getD undef = .pointer (some ⟨P1, 0, none⟩) := hold 9 rfl
                      have h10 : a.tmps[10]?.getD undef = .pointer (some ⟨P2, 0, none⟩) := hold 10 rfl
                      have y3 := Gr.at hg g3
                      have y7 := Gr.at hg e3
                      have y8 := Gr.at hg x3
                      have y9 := Gr.at hg z3
                      have s0 := Gr.at hg p0
                      have s1 := Gr.at hg p1
                      have s2 := Gr.at hg p2
                      have s3 := Gr.at hg p3
                      have t0 := Gr.at hg q0
                      have t1 := Gr.at hg q1
                      have t2 := Gr.at hg q2
                      have t3 := Gr.at hg q3
                      have Hg := Lib.hid hg
                      clear hold g3 e3 x3 z3 p0 p1 p2 p3 q0 q1 q2 q3
                      simp [predsImp, Region.binds, dstAt, fx, wantedE, Act.eval]
                      intros
                      first
                        | (rw [if_pos (by simp [*])]
                           intro K hK)
                        | (rename_i K hK)
                      go_simp
                    case a2 =>
                      rewrite [← Hxv.out, ← Hzv.out]
                      refine (same_calls (bareTm_in Hbx.out.1 Hbx.out.2.1 Hbx.out.2.2) (bareTm_in Hbz.out.1 Hbz.out.2.1 Hbz.out.2.2)).mono ?_
                      rintro e w10 ⟨rfl, hg2⟩
                      rw [Hsm.out]
                      exact hK _ _ rfl hg2
                    all_goals exact hK _ _ rfl (Gr.rfl' _)
                  · intro wJ hg
                    rintro _ rfl _ rfl _ rfl _ rfl _ rfl _ rfl _ rfl _ rfl _ rfl _ rfl _ rfl _ rfl _ rfl _ rfl _ rfl _ rfl _ rfl _ rfl _ rfl
                    simp only [finAll, Act.put, List.setIfInBounds_toArray, List.set_cons_succ, List.set_cons_zero]
                    have p0' := Gr.at hg p0
                    have q0' := Gr.at hg q0
                    have gJ := Lib.hid (Gr.trans gF.out hg)
                    clear p0 p1 p2 p3 q0 q1 q2 q3 g3 e3 x3 z3 hg
                    cases hk1 : (x.k == 1) with
                    | true =>
                      go_wp2_with fail
                      go_meet
                      exact ⟨by rw [HLa2.out, hk1]; rfl, gJ.out⟩
                    | false =>
                      cases hk2 : (z.k == 1) with
                      | true =>
                        go_wp2_with fail
                        go_meet
                        exact ⟨by rw [HLa2.out, hk1, hk2]; rfl, gJ.out⟩
                      | false =>
                        go_wp2_with fail
                        go_meet
                        exact ⟨by rw [HLa2.out, hk1, hk2]; rfl, gJ.out⟩
                | false =>
                  refine wp_region_rely [fx (.agg #[.int .i64 x.k, .int .i64 x.n, .string x.s, .slice none 0 0]), fx (.agg #[.int .i64 z.k, .int .i64 z.n, .string z.s, .slice none 0 0]), fx (.bool false), fx (.bool false), fx undef, fx undef, fx undef, fx undef, fx undef, fx undef, fx undef, fx undef, fx undef, fx undef, fx undef, fx undef, fx undef, fx (.bool false), fx (.bool false)]
                    (by kernel_rfl) (by kernel_rfl) (by repeat (first | exact Stable.nil | refine Stable.fix ?_)) ?_ ?_
                  · refine ⟨?_, ?_, ?a2, ?_, ?a4, ?a5, ?a6, ?a7, ?a8, ?a9, ?a10, ?a11, ?a12, ?a13, ?a14, ?a15, ?a16, ?_, ?_, trivial⟩
                    case a4 => exact stepOK_skip 3 true 66 rfl rfl rfl ⟨⟨3, Ground.guard⟩, by simp, rfl, rfl⟩
                    case a5 => exact stepOK_skip 3 true 66 rfl rfl rfl ⟨⟨3, Ground.guard⟩, by simp, rfl, rfl⟩
                    case a6 => exact stepOK_skip 3 true 66 rfl rfl rfl ⟨⟨3, Ground.guard⟩, by simp, rfl, rfl⟩
                    case a7 => exact stepOK_skip 3 true 66 rfl rfl rfl ⟨⟨3, Ground.guard⟩, by simp, rfl, rfl⟩
                    case a8 => exact stepOK_skip 3 true 66 rfl rfl rfl ⟨⟨3, Ground.guard⟩, by simp, rfl, rfl⟩
                    case a9 => exact stepOK_skip 3 true 66 rfl rfl rfl ⟨⟨3, Ground.guard⟩, by simp, rfl, rfl⟩
                    case a10 => exact stepOK_skip 3 true 66 rfl rfl rfl ⟨⟨3, Ground.guard⟩, by simp, rfl, rfl⟩
                    case a11 => exact stepOK_skip 3 true 66 rfl rfl rfl ⟨⟨3, Ground.guard⟩, by simp, rfl, rfl⟩
                    case a12 => exact stepOK_skip 3 true 66 rfl rfl rfl ⟨⟨3, Ground.guard⟩, by simp, rfl, rfl⟩
                    case a13 => exact stepOK_skip 3 true 66 rfl rfl rfl ⟨⟨3, Ground.guard⟩, by simp, rfl, rfl⟩
                    case a14 => exact stepOK_skip 3 true 66 rfl rfl rfl ⟨⟨3, Ground.guard⟩, by simp, rfl, rfl⟩
                    case a15 => exact stepOK_skip 3 true 66 rfl rfl rfl ⟨⟨3, Ground.guard⟩, by simp, rfl, rfl⟩
                    case a16 => exact stepOK_skip 3 true 66 rfl rfl rfl ⟨⟨3, Ground.guard⟩, by simp, rfl, rfl⟩
                    all_goals
                      intro a ww hg hold
                      have h3 : a.tmps[3]?.getD undef = .pointer (some ⟨w.heap.size, 0, none⟩) := hold 3 rfl
                      have h7 : a.tmps[7]?.getD undef = .pointer (some ⟨BH, 0, none⟩) := hold 7 rfl
                      have h9 : a.tmps[9]?.getD undef = .pointer (some ⟨P1, 0, none⟩) := hold 9 rfl
                      have h10 : a.tmps[10]?.getD undef = .pointer (some ⟨P2, 0, none⟩) := hold 10 rfl
                      have y3 := Gr.at hg g3
                      have y7 := Gr.at hg e3
                      have y8 := Gr.at hg x3
                      have y9 := Gr.at hg z3
                      have s0 := Gr.at hg p0
                      have s1 := Gr.at hg p1
                      have s2 := Gr.at hg p2
                      have s3 := Gr.at hg p3
                      have t0 := Gr.at hg q0
                      have t1 := Gr.at hg q1
                      have t2 := Gr.at hg q2
                      have t3 := Gr.at hg q3
                      have Hg := Lib.hid hg
                      clear hold g3 e3 x3 z3 p0 p1 p2 p3 q0 q1 q2 q3
                      simp [predsImp, Region.binds, dstAt, fx]
                      intros
                      first
                        | (rw [if_pos (by simp [*])]
                           intro K hK)
                        | (rename_i K hK)
                      go_simp
                    case a2 =>
                      rewrite [← Hxv.out, ← Hzv.out]
                      refine (same_calls (bareTm_in Hbx.out.1 Hbx.out.2.1 Hbx.out.2.2) (bareTm_in Hbz.out.1 Hbz.out.2.1 Hbz.out.2.2)).mono ?_
                      rintro e w10 ⟨rfl, hg2⟩
                      rw [Hsm.out]
                      exact hK _ _ rfl hg2
                    all_goals exact hK _ _ rfl (Gr.rfl' _)
                  · intro wJ hg
                    rintro _ rfl _ rfl _ rfl _ rfl _ rfl _ rfl _ rfl _ rfl _ rfl _ rfl _ rfl _ rfl _ rfl _ rfl _ rfl _ rfl _ rfl _ rfl _ rfl
                    simp only [finAll, Act.put, List.setIfInBounds_toArray, List.set_cons_succ, List.set_cons_zero]
                    have p0' := Gr.at hg p0
                    have q0' := Gr.at hg q0
                    have gJ := Lib.hid (Gr.trans gF.out hg)
                    clear p0 p1 p2 p3 q0 q1 q2 q3 g3 e3 x3 z3 hg
                    cases hk1 : (x.k == 1) with
                    | true =>
                      go_wp2_with fail
                      go_meet
                      exact ⟨by rw [HLa2.out, hk1]; rfl, gJ.out⟩
                    | false =>
                      cases hk2 : (z.k == 1) with
                      | true =>
                        go_wp2_with fail
                        go_meet
                        exact ⟨by rw [HLa2.out, hk1, hk2]; rfl, gJ.out⟩
                      | false =>
                        go_wp2_with fail
                        go_meet
                        exact ⟨by rw [HLa2.out, hk1, hk2]; rfl, gJ.out⟩
          obtain ⟨rfl, gcx⟩ := hcut
          obtain ⟨lt, hlt2⟩ : ∃ lt, letsT G.erase yh.erase = lt := ⟨_, rfl⟩
          rw [hlt2]
          have gwc : Gr w wc := Ge2.out.trans gcx
          have gwcA : Gr wA wc := Ge2A.out.trans gcx
          have HOc := Lib.hid (ownsRow_gr HO2.out gcx)
          have HBGc := Lib.hid (HBG2.out.gr gcx)
          have hb0 := (H.out.blk.gr gwc).cell 0 (v := .slice (some ⟨b, o, none⟩) L.length c) rfl
          have hPt : viewP G.erase (Hr.er ⟨yi, yh, yb, true⟩) = lt := by rw [viewP_tm, Hbb.out, hlt2]; rfl
          have HPt := Lib.hid hPt
          clear g0 g1 g2 g3 e0 e1 e2 e3 hlt2 hPt
          cases lt with
          | false =>
            go_wp2_with fail
            go_roundg (L.length - (k + 1))
            case measure => omega
            case rel => exact ⟨k + 1, v, rfl, by omega, rfl, by go_num, by rw [Hs.out, if_neg (by rw [HPt.out]; simp), List.append_nil]; exact HOc, HBGc, gwcA⟩
          | true =>
            have c0 : wc.cell? ⟨b, o + k * 10, none⟩ = some (.int .i64 yi) := Hc.out wc gwc 0 _ rfl
            have c1 := Hc.out wc gwc 1 _ rfl
            have c2 := Hc.out wc gwc 2 _ rfl
            have c3 := Hc.out wc gwc 3 _ rfl
            have c4 := Hc.out wc gwc 4 _ rfl
            have c5 := Hc.out wc gwc 5 _ rfl
            have c6 := Hc.out wc gwc 6 _ rfl
            have c7 := Hc.out wc gwc 7 _ rfl
            have c8 := Hc.out wc gwc 8 _ rfl
            have c9 := Hc.out wc gwc 9 _ rfl
            have gq : Gr wc (wc.alloc (.cells #[.int .i64 yi, .int .i64 yh.k, .int .i64 yh.n, .string yh.s, .slice yh.p yh.l.length yh.c, .int .i64 yb.k, .int .i64 yb.n, .string yb.s, .slice yb.p yb.l.length yb.c, .bool true] 75)) := by go_grown
            have hsw := gwcA.size
            obtain ⟨v5, w6, hr5, ho5, hg5, hk5⟩ := append_oneHr (wc.alloc (.cells #[.int .i64 yi, .int .i64 yh.k, .int .i64 yh.n, .string yh.s, .slice yh.p yh.l.length yh.c, .int .i64 yb.k, .int .i64 yb.n, .string yb.s, .slice yb.p yb.l.length yb.c, .bool true] 75)) wA.heap.size v _ _ ⟨yi, yh, yb, true⟩ (.slice (some ⟨wc.heap.size, 0, none⟩) 1 1) ⟨wc.heap.size, rfl, hsw, BlkT.new _ _ _⟩ (ownsRow_gr HOc.out gq) (Nat.le_trans hsw gq.size) (by have := Hle.out; omega)
            have Hr5 := Lib.hid hr5
            have g6 : Gr wA w6 := Below.trans (gwcA.trans gq) (grownBy_below hg5 (B := wA.heap.size) (Nat.le_trans hsw gq.size) fun j hj => (HOc.out.lt j hj).1)
            have hb6 : Hid (Blk4 w6 w.heap.size (.int .i64 G.k) (.int .i64 G.n) (.string G.s) (.slice G.p G.l.length G.c)) := (HBGc.out.gr gq).kp (Kp.of_grown (C := fun j => v.ownBlock = some j) hg5 fun r hr => hr) (show ¬ v.ownBlock = some w.heap.size from fun e => by have := (ho.out.lt _ e).1; omega)
            have HO6 := Lib.hid ho5
            clear hr5 ho5 hg5 hk5 gq
            go_wp2_with (first
              | (at_builtin; refine wpList_append_run _ rfl _ _ _ _ rfl _ _ (by rfl) (by rfl) _ _ Hr5.out ?_)
              | fail)
            go_roundg (L.length - (k + 1))
            case measure => omega
            case rel => exact ⟨k + 1, v5, rfl, by omega, rfl, by go_num, by rw [Hs.out, if_pos HPt.out, List.length_append, List.flatMap_append]; simpa using HO6, hb6, g6⟩
    · obtain rfl : k = L.length := by omega
      have Hend := Lib.hid (hR.out wA.heap.size v wr gA.size (by rw [hf0.out]; exact ho.out) gr)
      clear g0 g1 g2 g3
      go_wp2_with fail
      exact Hend.out
end Go.Proofs.YtjdoflfdlhpbmaaDoor

namespace Go.Proofs.YtjdoflfdlhpbmaaDoor
open Go.RowKit Go.Maps

/-- Block b is a map all of whose keys are such; when each entry was laid. -/
def Stm {K : Type} (κ : K → Value) (w : World) (b : Nat) : Prop :=
  ∃ (E : Array MapEntry) (c : Nat), w.heap[b]? = some (.map E c) ∧ (∀ e ∈ E.toList, (∃ x, e.key = κ x) ∧ e.born < c) ∧ (E.toList.map (·.born)).Nodup

section
variable {K : Type} {k : TypeId} {κ : K → Value} {w w' : World} {b : Nat} {f : K → Option Value}
theorem Stm.kp {C : Nat → Prop} (h : Stm κ w b) (hg : Kp C w w') (hb : ¬ C b) : Stm κ w' b := by
  obtain ⟨E, c, h1, h2⟩ := h
  exact ⟨E, c, (hg.block b (Array.getElem?_eq_some_iff.1 h1).1 hb).trans h1, h2⟩
theorem Stm.gr (h : Stm κ w b) (hg : Gr w w') : Stm κ w' b := h.kp (C := fun _ => False) (Kp.of_gr hg) id
theorem Stm.made (κ : K → Value) (w : World) : Stm κ (w.alloc (.map #[] 0)) w.heap.size := ⟨#[], 0, heap_alloc_new _ _, (fun _ h => by cases h), List.nodup_nil⟩

end

end Go.Proofs.YtjdoflfdlhpbmaaDoor
