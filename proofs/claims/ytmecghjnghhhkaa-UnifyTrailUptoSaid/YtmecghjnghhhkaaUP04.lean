/-
  hornlaw.fits: what it says where there is no more than is looked at.
  The rely rule for a region with guards, some of whose operations turn more than new memory: R is what any operation keeps; J what is known by which operations are over.
-/
import Derived.Test.YtmecghjnghhhkaaUP03
import Derived.Test.YtmecghjnghhhkaaUO27
import Derived.Test.YtmecghjnghhhkaaUO15
namespace Go.Proofs.Ytmecghjnghhhkaa
open Go.RowKit Go.Maps Go.Lib

theorem SlOf.imp {X : Type} {cellsX : X → List Value} {I I' : X → Prop} {sz bytes : Nat} {w : World} {p : Option Addr} {c : Nat} {l : List X} (h : SlOf cellsX I sz bytes w p c l) (hi : ∀ y, I y → I' y) : SlOf cellsX I' sz bytes w p c l :=
  ⟨h.1, h.2.1, h.2.2.1, fun y hy => hi y (h.2.2.2 y hy)⟩
theorem Stp.In.gr {w w' : World} {x : Stp} (h : x.In w) (hg : Gr w w') : x.In w' := ⟨Tm.In_below hg h.1, Tm.In_below hg h.2.1, h.2.2⟩
/-- A step's block. -/
theorem stp_block {w w' : World} {b : Nat} {x : Stp} (h : BlkT w b 45 x.arr) (hg : Gr w w') : BlkT w' b 45 x.arr := h.gr hg

set_option maxHeartbeats 4000000 in
set_option maxRecDepth 100000 in
theorem fits1_calls (p : Option Addr) (c : Nat) (l : List Stp) (Bl : Nat) (w : World) (h : SlOf Stp.cells (Stp.In w) 10 128 w p c l) (hB : BlkT w Bl 36 #[.slice p l.length c]) :
    Calls Try.prog 81 #[.pointer (some ⟨Bl, 0, none⟩)] w (RetOr (fun b => b = true → Runs l []) w) := by
  have HL := Lib.hid h
  have HBl := Lib.hid hB
  have hll := h.2.1.1
  have hQ0 : Hid (∀ e w', (e = .returned (.tuple #[]) ∧ Runs l []) ∨ GrownE e → Gr w w' → RetOr (fun b => b = true → Runs l []) w e w') := fun e w' h1 h2 => ⟨h1.elim (fun h => .inl ⟨h.1, fun _ => h.2⟩) fun h => .inr ⟨h, fun h => nomatch h⟩, h2⟩
  generalize RetOr (fun b => b = true → Runs l []) w = R at hQ0 ⊢
  have HR := hQ0
  clear h hB hQ0
  go_enter Try.func81, Try.ntmps81
  try simp only [List.append_eq, List.cons_append, List.nil_append]
  go_upto_region 1 with fail
  have hrs := RS.start (S := (· < w.heap.size)) (w := w) fun b hb => hb
  have gA : Gr w (w.alloc (.cells #[.slice none 0 0] 41)) := by go_grown
  generalize w.alloc (.cells #[.slice none 0 0] 41) = wA at *
  have Hrs := Lib.hid hrs
  clear hrs
  go_wp2_with fail
  go_loopg [2] l.length (fun m i wr => ∃ (k : Nat) (vq : Value) (lp : List Pr), k ≤ l.length ∧ m = l.length - k ∧ i = .int .i64 k ∧ Hid (RS (· < w.heap.size) wr w.heap.size vq lp) ∧ Hid (AllRob (seePrs lp)) ∧ lp.length ≤ k ∧ Hid (Runs (l.drop k) (seePrs lp) → Runs l []) ∧ Gr w wr)
  case atStart => exact ⟨0, _, [], Nat.zero_le _, rfl, rfl, Hrs, AllRob.nil, Nat.le_refl _, fun h => h, gA⟩
  case round =>
    obtain ⟨k, vq, lp, hk, rfl, rfl, hrs, hrob, hlp, hruns, gr⟩ := hrel
    have d0 := (HBl.out.gr gr).cell 0 (v := .slice p l.length c) rfl
    have hwr : w.heap.size < wr.heap.size := hrs.out.blk.lt
    by_cases hlt : k < l.length
    · obtain ⟨b, o, rfl, hin, c0, ⟨c1, c2, c3, c4⟩, ⟨c5, c6, c7, c8⟩, c9⟩ := stp_elem (HL.out.mono gr) k hlt
      have Hnext : Hid (∀ E', Took (seePrs lp) l[k] E' → Runs (l.drop (k + 1)) E' → Runs l []) := fun E' h1 h2 => hruns.out (by rw [List.drop_eq_getElem_cons hlt]; exact ⟨E', h1, h2⟩)
      have Hin := Lib.hid (hin.gr gr)
      have Oa := Lib.hid hin.1.on
      have Ob := Lib.hid hin.2.1.on
      have hl2 : (lp.length + 1) * 112 ≤ 140737488351232 := by omega
      clear hin hruns
      generalize l[k] = x at *
      obtain ⟨kd, xa, xb, n⟩ := x
      obtain ⟨ia, ib, hkd, hn⟩ := Hin.out
      have Ia := Lib.hid ia
      have Ib := Lib.hid ib
      simp only at c0 c1 c2 c3 c4 c5 c6 c7 c8 c9
      clear ia ib Hin
      go_upto_region 5 with fail
      have hX := BlkT.new wr 45 #[.int .i64 kd, .int .i64 xa.k, .int .i64 xa.n, .string xa.s, .slice xa.p xa.l.length xa.c, .int .i64 xb.k, .int .i64 xb.n, .string xb.s, .slice xb.p xb.l.length xb.c, .int .i64 n]
      have gX : Gr wr (wr.alloc (.cells #[.int .i64 kd, .int .i64 xa.k, .int .i64 xa.n, .string xa.s, .slice xa.p xa.l.length xa.c, .int .i64 xb.k, .int .i64 xb.n, .string xb.s, .slice xb.p xb.l.length xb.c, .int .i64 n] 45)) := by go_grown
      generalize wr.alloc (.cells #[.int .i64 kd, .int .i64 xa.k, .int .i64 xa.n, .string xa.s, .slice xa.p xa.l.length xa.c, .int .i64 xb.k, .int .i64 xb.n, .string xb.s, .slice xb.p xb.l.length xb.c, .int .i64 n] 45) = wX at *
      have HX := Lib.hid hX
      generalize wr.heap.size = BX at *
      have gwX : Gr w wX := gr.trans gX
      have Hrs2 := Lib.hid (hrs.out.gr gX)
      have Ia2 := Lib.hid (Tm.In_below gX Ia.out)
      have Ib2 := Lib.hid (Tm.In_below gX Ib.out)
      have Hfa := Lib.hid (fun (W : World) (g : Gr wX W) => show Calls Try.prog 34 #[.agg #[.int .i64 xa.k, .int .i64 xa.n, .string xa.s, .slice xa.p xa.l.length xa.c]] W (Ret (.bool xa.erase.formed) W) from rformed_calls (t := xa) (Tm.In_below g Ia2.out))
      have Hfb := Lib.hid (fun (W : World) (g : Gr wX W) => show Calls Try.prog 34 #[.agg #[.int .i64 xb.k, .int .i64 xb.n, .string xb.s, .slice xb.p xb.l.length xb.c]] W (Ret (.bool xb.erase.formed) W) from rformed_calls (t := xb) (Tm.In_below g Ib2.out))
      clear hX c0 c1 c2 c3 c4 c5 c6 c7 c8 c9 d0 hrs
      by_cases h0 : kd = 0
      · subst h0
        by_cases hf : xa.erase.formed = true ∧ xb.erase.formed = true
        · have Hf := Lib.hid hf
          rw [Hf.out.1] at Hfa
          rw [Hf.out.2] at Hfb
          have Hru := Lib.hid (fun (W : World) (g : Gr wX W) => show Calls Try.prog 82 #[.pointer (some ⟨w.heap.size, 0, none⟩), .agg #[.int .i64 xa.k, .int .i64 xa.n, .string xa.s, .slice xa.p xa.l.length xa.c], .agg #[.int .i64 xb.k, .int .i64 xb.n, .string xb.s, .slice xb.p xb.l.length xb.c]] W (RetRU (· < w.heap.size) w.heap.size (lp ++ [⟨xa, xb⟩]) W) from rsUnify_calls (Hrs2.out.gr g) xa xb (Tm.In_below g Ia2.out) (Tm.In_below g Ib2.out) Oa.out Ob.out Hf.out.1 Hf.out.2 hl2)
          clear hf
          have x0 := (HX.out).cell 0 (v := .int .i64 0) rfl
          have x1 := (HX.out).cell 1 (v := .int .i64 xa.k) rfl
          have x2 := (HX.out).cell 2 (v := .int .i64 xa.n) rfl
          have x3 := (HX.out).cell 3 (v := .string xa.s) rfl
          have x4 := (HX.out).cell 4 (v := .slice xa.p xa.l.length xa.c) rfl
          have x5 := (HX.out).cell 5 (v := .int .i64 xb.k) rfl
          have x6 := (HX.out).cell 6 (v := .int .i64 xb.n) rfl
          have x7 := (HX.out).cell 7 (v := .string xb.s) rfl
          have x8 := (HX.out).cell 8 (v := .slice xb.p xb.l.length xb.c) rfl
          have x9 := (HX.out).cell 9 (v := .int .i64 n) rfl
          go_wp2_with fail
          refine (Hfa.out wX (Gr.rfl' _)).mono ?_
          rintro e w2 ⟨rfl, g2⟩
          replace g2 : Gr wX w2 := g2
          clear x0 x1 x2 x3 x4 x5 x6 x7 x8 x9
          have x0 := (HX.out.gr g2).cell 0 (v := .int .i64 0) rfl
          have x1 := (HX.out.gr g2).cell 1 (v := .int .i64 xa.k) rfl
          have x2 := (HX.out.gr g2).cell 2 (v := .int .i64 xa.n) rfl
          have x3 := (HX.out.gr g2).cell 3 (v := .string xa.s) rfl
          have x4 := (HX.out.gr g2).cell 4 (v := .slice xa.p xa.l.length xa.c) rfl
          have x5 := (HX.out.gr g2).cell 5 (v := .int .i64 xb.k) rfl
          have x6 := (HX.out.gr g2).cell 6 (v := .int .i64 xb.n) rfl
          have x7 := (HX.out.gr g2).cell 7 (v := .string xb.s) rfl
          have x8 := (HX.out.gr g2).cell 8 (v := .slice xb.p xb.l.length xb.c) rfl
          have x9 := (HX.out.gr g2).cell 9 (v := .int .i64 n) rfl
          go_wp2_with fail
          refine (Hfb.out w2 g2).mono ?_
          rintro e w3 ⟨rfl, g3⟩
          replace g3 : Gr wX w3 := Gr.trans g2 g3
          clear x0 x1 x2 x3 x4 x5 x6 x7 x8 x9
          have x0 := (HX.out.gr g3).cell 0 (v := .int .i64 0) rfl
          have x1 := (HX.out.gr g3).cell 1 (v := .int .i64 xa.k) rfl
          have x2 := (HX.out.gr g3).cell 2 (v := .int .i64 xa.n) rfl
          have x3 := (HX.out.gr g3).cell 3 (v := .string xa.s) rfl
          have x4 := (HX.out.gr g3).cell 4 (v := .slice xa.p xa.l.length xa.c) rfl
          have x5 := (HX.out.gr g3).cell 5 (v := .int .i64 xb.k) rfl
          have x6 := (HX.out.gr g3).cell 6 (v := .int .i64 xb.n) rfl
          have x7 := (HX.out.gr g3).cell 7 (v := .string xb.s) rfl
          have x8 := (HX.out.gr g3).cell 8 (v := .slice xb.p xb.l.length xb.c) rfl
          have x9 := (HX.out.gr g3).cell 9 (v := .int .i64 n) rfl
          go_wp2_with fail
          refine (Hru.out w3 g3).mono ?_
          rintro e w4 ⟨o, ho, hout⟩
          have ho2 := ho
          rw [seePrs_append] at ho2
          clear x0 x1 x2 x3 x4 x5 x6 x7 x8 x9
          cases o with
          | grown =>
            obtain ⟨hE, g4⟩ := hout
            have hfin := HR.out e w4 (.inr hE) ((gwX.trans g3).trans g4)
            rw [GrownE] at hE
            subst hE
            exact ⟨rfl, hfin⟩
          | clash =>
            obtain ⟨rfl, g4⟩ := hout
            have Ho2 := Lib.hid ho2
            clear ho ho2
            have Hrel := Lib.hid (show Runs (l.drop (k + 1)) (seePrs (lp)) → Runs l [] from Hnext.out _ (by rw [Took, if_pos ⟨rfl, Hf.out⟩]; exact .inr ⟨Ho2.out, rfl⟩))
            go_wp2_with fail
            go_roundg (l.length - (k + 1))
            case measure => omega
            case rel => exact ⟨k + 1, _, lp, by omega, rfl, by go_num, (Lib.hid (Hrs2.out.gr (g3.trans g4))), hrob, by omega, Hrel, (gwX.trans g3).trans g4⟩
          | done r =>
            obtain ⟨rfl, v', hr4, k4, hv4⟩ := hout
            have Ho := Lib.hid ho
            have Ho2 := Lib.hid ho2
            have Hr4 := Lib.hid hr4
            have Hrob4 : Hid (AllRob (seePrs (lp ++ [⟨xa, xb⟩]))) := by
              show AllRob _
              rw [seePrs_append]
              exact hrob.out.snoc ho2
            have g4 : Gr w w4 := Below.trans (gwX.trans g3) (k4.below (fun b hb => by omega) (gwX.trans g3).size)
            clear ho ho2 hr4 k4 hv4
            have Hrel := Lib.hid (show Runs (l.drop (k + 1)) (seePrs (lp ++ [⟨xa, xb⟩])) → Runs l [] from Hnext.out _ (by rw [Took, if_pos ⟨rfl, Hf.out⟩]; exact .inl ⟨r, Ho2.out, by rw [seePrs_append]⟩))
            go_wp2_with fail
            go_roundg (l.length - (k + 1))
            case measure => omega
            case rel => exact ⟨k + 1, _, lp ++ [⟨xa, xb⟩], by omega, rfl, by go_num, Hr4, Hrob4, by rw [List.length_append, List.length_singleton]; omega, Hrel, g4⟩
        · have Hnf := Lib.hid hf
          clear hf
          have Htk : Hid (Took (seePrs lp) ⟨0, xa, xb, n⟩ (seePrs lp)) := by
            show Took _ _ _
            rw [Took, if_neg (fun h => Hnf.out h.2), if_neg (fun h => by have h9 := h.1; simp at h9), if_neg (fun h => by have h9 := h.1; simp at h9)]
          generalize hfa : xa.erase.formed = fa at *
          generalize hfb : xb.erase.formed = fb at *
          have x0 := (HX.out).cell 0 (v := .int .i64 0) rfl
          have x1 := (HX.out).cell 1 (v := .int .i64 xa.k) rfl
          have x2 := (HX.out).cell 2 (v := .int .i64 xa.n) rfl
          have x3 := (HX.out).cell 3 (v := .string xa.s) rfl
          have x4 := (HX.out).cell 4 (v := .slice xa.p xa.l.length xa.c) rfl
          have x5 := (HX.out).cell 5 (v := .int .i64 xb.k) rfl
          have x6 := (HX.out).cell 6 (v := .int .i64 xb.n) rfl
          have x7 := (HX.out).cell 7 (v := .string xb.s) rfl
          have x8 := (HX.out).cell 8 (v := .slice xb.p xb.l.length xb.c) rfl
          have x9 := (HX.out).cell 9 (v := .int .i64 n) rfl
          cases fa with
          | false =>
            clear hfa hfb
            go_wp2_with fail
            refine (Hfa.out wX (Gr.rfl' _)).mono ?_
            rintro e w2 ⟨rfl, g2⟩
            replace g2 : Gr wX w2 := g2
            clear x0 x1 x2 x3 x4 x5 x6 x7 x8 x9
            have x0 := (HX.out.gr g2).cell 0 (v := .int .i64 0) rfl
            have x1 := (HX.out.gr g2).cell 1 (v := .int .i64 xa.k) rfl
            have x2 := (HX.out.gr g2).cell 2 (v := .int .i64 xa.n) rfl
            have x3 := (HX.out.gr g2).cell 3 (v := .string xa.s) rfl
            have x4 := (HX.out.gr g2).cell 4 (v := .slice xa.p xa.l.length xa.c) rfl
            have x5 := (HX.out.gr g2).cell 5 (v := .int .i64 xb.k) rfl
            have x6 := (HX.out.gr g2).cell 6 (v := .int .i64 xb.n) rfl
            have x7 := (HX.out.gr g2).cell 7 (v := .string xb.s) rfl
            have x8 := (HX.out.gr g2).cell 8 (v := .slice xb.p xb.l.length xb.c) rfl
            have x9 := (HX.out.gr g2).cell 9 (v := .int .i64 n) rfl
            have Hrel := Lib.hid (show Runs (l.drop (k + 1)) (seePrs (lp)) → Runs l [] from Hnext.out _ (by exact Htk.out))
            go_wp2_with fail
            go_roundg (l.length - (k + 1))
            case measure => omega
            case rel => exact ⟨k + 1, _, lp, by omega, rfl, by go_num, (Lib.hid (Hrs2.out.gr (g2))), hrob, by omega, Hrel, gwX.trans (g2)⟩
          | true =>
            cases fb with
            | true => exact absurd ⟨rfl, rfl⟩ Hnf.out
            | false =>
              clear hfa hfb
              go_wp2_with fail
              refine (Hfa.out wX (Gr.rfl' _)).mono ?_
              rintro e w2 ⟨rfl, g2⟩
              replace g2 : Gr wX w2 := g2
              clear x0 x1 x2 x3 x4 x5 x6 x7 x8 x9
              have x0 := (HX.out.gr g2).cell 0 (v := .int .i64 0) rfl
              have x1 := (HX.out.gr g2).cell 1 (v := .int .i64 xa.k) rfl
              have x2 := (HX.out.gr g2).cell 2 (v := .int .i64 xa.n) rfl
              have x3 := (HX.out.gr g2).cell 3 (v := .string xa.s) rfl
              have x4 := (HX.out.gr g2).cell 4 (v := .slice xa.p xa.l.length xa.c) rfl
              have x5 := (HX.out.gr g2).cell 5 (v := .int .i64 xb.k) rfl
              have x6 := (HX.out.gr g2).cell 6 (v := .int .i64 xb.n) rfl
              have x7 := (HX.out.gr g2).cell 7 (v := .string xb.s) rfl
              have x8 := (HX.out.gr g2).cell 8 (v := .slice xb.p xb.l.length xb.c) rfl
              have x9 := (HX.out.gr g2).cell 9 (v := .int .i64 n) rfl
              go_wp2_with fail
              refine (Hfb.out w2 g2).mono ?_
              rintro e w3 ⟨rfl, g3⟩
              replace g3 : Gr wX w3 := Gr.trans g2 g3
              clear x0 x1 x2 x3 x4 x5 x6 x7 x8 x9
              have x0 := (HX.out.gr g3).cell 0 (v := .int .i64 0) rfl
              have x1 := (HX.out.gr g3).cell 1 (v := .int .i64 xa.k) rfl
              have x2 := (HX.out.gr g3).cell 2 (v := .int .i64 xa.n) rfl
              have x3 := (HX.out.gr g3).cell 3 (v := .string xa.s) rfl
              have x4 := (HX.out.gr g3).cell 4 (v := .slice xa.p xa.l.length xa.c) rfl
              have x5 := (HX.out.gr g3).cell 5 (v := .int .i64 xb.k) rfl
              have x6 := (HX.out.gr g3).cell 6 (v := .int .i64 xb.n) rfl
              have x7 := (HX.out.gr g3).cell 7 (v := .string xb.s) rfl
              have x8 := (HX.out.gr g3).cell 8 (v := .slice xb.p xb.l.length xb.c) rfl
              have x9 := (HX.out.gr g3).cell 9 (v := .int .i64 n) rfl
              have Hrel := Lib.hid (show Runs (l.drop (k + 1)) (seePrs (lp)) → Runs l [] from Hnext.out _ (by exact Htk.out))
              go_wp2_with fail
              go_roundg (l.length - (k + 1))
              case measure => omega
              case rel => exact ⟨k + 1, _, lp, by omega, rfl, by go_num, (Lib.hid (Hrs2.out.gr (g3))), hrob, by omega, Hrel, gwX.trans (g3)⟩
      · have e0 : (kd == 0) = false := beq_eq_false_iff_ne.2 h0
        by_cases h1 : kd = 1
        · subst h1
          obtain ⟨pq, cq, rfl, hprs⟩ := Hrs2.out.prs
          have q0 := Hrs2.out.blk.cell 0 (v := .slice pq lp.length cq) rfl
          have qf := Hrs2.out.blk.open_ 0
          have hlc1 : lp.length ≤ cq := hprs.1
          by_cases hc : 0 ≤ n ∧ n ≤ lp.length
          · obtain ⟨kk, rfl⟩ : ∃ kk : Nat, n = (kk : Int) := ⟨n.toNat, by omega⟩
            have hkk : kk ≤ lp.length := by omega
            have hd1 : decide (0 ≤ (kk : Int)) = true := decide_eq_true (by omega)
            have hd2 : decide ((kk : Int) ≤ lp.length) = true := decide_eq_true (by omega)
            have hkc : kk ≤ cq := Nat.le_trans hkk hlc1
            have Hcut := Lib.hid (Hrs2.out.cut kk hkk rfl)
            have Hrob2 : Hid (AllRob (seePrs (lp.take kk))) := by
              show AllRob _
              rw [seePrs_take_all]
              exact hrob.out.take kk
            have g4 : Gr w (wX.setCell ⟨w.heap.size, 0, none⟩ (.slice pq kk kk)) := Below.trans gwX ((Kp.set (C := (· = w.heap.size)) rfl).below (fun b hb => by omega) gwX.size)
            have Htk : Hid (Took (seePrs lp) ⟨1, xa, xb, (kk : Int)⟩ (seePrs (lp.take kk))) := by
              show Took _ _ _
              rw [Took, if_neg (fun h => by have h9 := h.1; simp at h9), if_pos ⟨rfl, by simp only; omega, by simp only; rw [seePrs_length]; omega⟩, seePrs_take_all]
              simp only [Int.toNat_natCast]
            clear hprs hc
            have x0 := (HX.out).cell 0 (v := .int .i64 1) rfl
            have x1 := (HX.out).cell 1 (v := .int .i64 xa.k) rfl
            have x2 := (HX.out).cell 2 (v := .int .i64 xa.n) rfl
            have x3 := (HX.out).cell 3 (v := .string xa.s) rfl
            have x4 := (HX.out).cell 4 (v := .slice xa.p xa.l.length xa.c) rfl
            have x5 := (HX.out).cell 5 (v := .int .i64 xb.k) rfl
            have x6 := (HX.out).cell 6 (v := .int .i64 xb.n) rfl
            have x7 := (HX.out).cell 7 (v := .string xb.s) rfl
            have x8 := (HX.out).cell 8 (v := .slice xb.p xb.l.length xb.c) rfl
            have x9 := (HX.out).cell 9 (v := .int .i64 kk) rfl
            have Hrel := Lib.hid (show Runs (l.drop (k + 1)) (seePrs (lp.take kk)) → Runs l [] from Hnext.out _ Htk.out)
            go_wp2_with fail
            go_roundg (l.length - (k + 1))
            case measure => omega
            case rel => exact ⟨k + 1, _, lp.take kk, by omega, rfl, by go_num, Hcut, Hrob2, by rw [List.length_take]; omega, Hrel, g4⟩
          · have Htk : Hid (Took (seePrs lp) ⟨1, xa, xb, n⟩ (seePrs lp)) := by
              show Took _ _ _
              rw [Took, if_neg (fun h => by have h9 := h.1; simp at h9), if_neg (fun h => hc (by rw [seePrs_length] at h; exact h.2)), if_neg (fun h => by have h9 := h.1; simp at h9)]
            have g0 : Gr wX wX := Gr.rfl' _
            by_cases hn0 : 0 ≤ n
            · have hd1 : decide (0 ≤ n) = true := decide_eq_true hn0
              have hd2 : decide (n ≤ lp.length) = false := decide_eq_false (fun h => hc ⟨hn0, h⟩)
              clear hprs hc hn0
              have x0 := (HX.out).cell 0 (v := .int .i64 1) rfl
              have x1 := (HX.out).cell 1 (v := .int .i64 xa.k) rfl
              have x2 := (HX.out).cell 2 (v := .int .i64 xa.n) rfl
              have x3 := (HX.out).cell 3 (v := .string xa.s) rfl
              have x4 := (HX.out).cell 4 (v := .slice xa.p xa.l.length xa.c) rfl
              have x5 := (HX.out).cell 5 (v := .int .i64 xb.k) rfl
              have x6 := (HX.out).cell 6 (v := .int .i64 xb.n) rfl
              have x7 := (HX.out).cell 7 (v := .string xb.s) rfl
              have x8 := (HX.out).cell 8 (v := .slice xb.p xb.l.length xb.c) rfl
              have x9 := (HX.out).cell 9 (v := .int .i64 n) rfl
              have Hrel := Lib.hid (show Runs (l.drop (k + 1)) (seePrs (lp)) → Runs l [] from Hnext.out _ (by exact Htk.out))
              go_wp2_with fail
              go_roundg (l.length - (k + 1))
              case measure => omega
              case rel => exact ⟨k + 1, _, lp, by omega, rfl, by go_num, (Lib.hid (Hrs2.out.gr (g0))), hrob, by omega, Hrel, gwX.trans (g0)⟩
            · have hd1 : decide (0 ≤ n) = false := decide_eq_false hn0
              clear hprs hc hn0
              have x0 := (HX.out).cell 0 (v := .int .i64 1) rfl
              have x1 := (HX.out).cell 1 (v := .int .i64 xa.k) rfl
              have x2 := (HX.out).cell 2 (v := .int .i64 xa.n) rfl
              have x3 := (HX.out).cell 3 (v := .string xa.s) rfl
              have x4 := (HX.out).cell 4 (v := .slice xa.p xa.l.length xa.c) rfl
              have x5 := (HX.out).cell 5 (v := .int .i64 xb.k) rfl
              have x6 := (HX.out).cell 6 (v := .int .i64 xb.n) rfl
              have x7 := (HX.out).cell 7 (v := .string xb.s) rfl
              have x8 := (HX.out).cell 8 (v := .slice xb.p xb.l.length xb.c) rfl
              have x9 := (HX.out).cell 9 (v := .int .i64 n) rfl
              have Hrel := Lib.hid (show Runs (l.drop (k + 1)) (seePrs (lp)) → Runs l [] from Hnext.out _ (by exact Htk.out))
              go_wp2_with fail
              go_roundg (l.length - (k + 1))
              case measure => omega
              case rel => exact ⟨k + 1, _, lp, by omega, rfl, by go_num, (Lib.hid (Hrs2.out.gr (g0))), hrob, by omega, Hrel, gwX.trans (g0)⟩
        · have e1 : (kd == 1) = false := beq_eq_false_iff_ne.2 h1
          have g0 : Gr wX wX := Gr.rfl' _
          by_cases h2 : kd = 2
          · subst h2
            clear h0 h1
            cases hfa : xa.erase.formed with
            | false =>
              have Htk : Hid (Took (seePrs lp) ⟨2, xa, xb, n⟩ (seePrs lp)) := by
                show Took _ _ _
                rw [Took, if_neg (fun h => by have h9 := h.1; simp at h9), if_neg (fun h => by have h9 := h.1; simp at h9), if_neg (fun h => by rw [hfa] at h; exact absurd h.2 (by decide))]
              rw [hfa] at Hfa
              clear hfa
              have x0 := (HX.out).cell 0 (v := .int .i64 2) rfl
              have x1 := (HX.out).cell 1 (v := .int .i64 xa.k) rfl
              have x2 := (HX.out).cell 2 (v := .int .i64 xa.n) rfl
              have x3 := (HX.out).cell 3 (v := .string xa.s) rfl
              have x4 := (HX.out).cell 4 (v := .slice xa.p xa.l.length xa.c) rfl
              have x5 := (HX.out).cell 5 (v := .int .i64 xb.k) rfl
              have x6 := (HX.out).cell 6 (v := .int .i64 xb.n) rfl
              have x7 := (HX.out).cell 7 (v := .string xb.s) rfl
              have x8 := (HX.out).cell 8 (v := .slice xb.p xb.l.length xb.c) rfl
              have x9 := (HX.out).cell 9 (v := .int .i64 n) rfl
              go_wp2_with fail
              refine (Hfa.out wX (Gr.rfl' _)).mono ?_
              rintro e w2 ⟨rfl, g2⟩
              replace g2 : Gr wX w2 := g2
              clear x0 x1 x2 x3 x4 x5 x6 x7 x8 x9
              have x0 := (HX.out.gr g2).cell 0 (v := .int .i64 2) rfl
              have x1 := (HX.out.gr g2).cell 1 (v := .int .i64 xa.k) rfl
              have x2 := (HX.out.gr g2).cell 2 (v := .int .i64 xa.n) rfl
              have x3 := (HX.out.gr g2).cell 3 (v := .string xa.s) rfl
              have x4 := (HX.out.gr g2).cell 4 (v := .slice xa.p xa.l.length xa.c) rfl
              have x5 := (HX.out.gr g2).cell 5 (v := .int .i64 xb.k) rfl
              have x6 := (HX.out.gr g2).cell 6 (v := .int .i64 xb.n) rfl
              have x7 := (HX.out.gr g2).cell 7 (v := .string xb.s) rfl
              have x8 := (HX.out.gr g2).cell 8 (v := .slice xb.p xb.l.length xb.c) rfl
              have x9 := (HX.out.gr g2).cell 9 (v := .int .i64 n) rfl
              have Hrel := Lib.hid (show Runs (l.drop (k + 1)) (seePrs (lp)) → Runs l [] from Hnext.out _ (by exact Htk.out))
              go_wp2_with fail
              go_roundg (l.length - (k + 1))
              case measure => omega
              case rel => exact ⟨k + 1, _, lp, by omega, rfl, by go_num, (Lib.hid (Hrs2.out.gr (g2))), hrob, by omega, Hrel, gwX.trans (g2)⟩
            | true =>
              rw [hfa] at Hfa
              have Hfm := Lib.hid hfa
              obtain ⟨ρ, hρ⟩ := hrob.out.all
              have Hρ := Lib.hid hρ
              have Hrr := Lib.hid (fun (W : World) (g : Gr wX W) => show Calls Try.prog 83 #[.pointer (some ⟨w.heap.size, 0, none⟩), .agg #[.int .i64 xa.k, .int .i64 xa.n, .string xa.s, .slice xa.p xa.l.length xa.c]] W (RetRR (· < w.heap.size) (T.map ρ xa.erase) W) from rsResolve_calls (Hrs2.out.gr g) Hρ.out xa (Tm.In_below g Ia2.out) Hfm.out)
              clear hfa hρ
              have x0 := (HX.out).cell 0 (v := .int .i64 2) rfl
              have x1 := (HX.out).cell 1 (v := .int .i64 xa.k) rfl
              have x2 := (HX.out).cell 2 (v := .int .i64 xa.n) rfl
              have x3 := (HX.out).cell 3 (v := .string xa.s) rfl
              have x4 := (HX.out).cell 4 (v := .slice xa.p xa.l.length xa.c) rfl
              have x5 := (HX.out).cell 5 (v := .int .i64 xb.k) rfl
              have x6 := (HX.out).cell 6 (v := .int .i64 xb.n) rfl
              have x7 := (HX.out).cell 7 (v := .string xb.s) rfl
              have x8 := (HX.out).cell 8 (v := .slice xb.p xb.l.length xb.c) rfl
              have x9 := (HX.out).cell 9 (v := .int .i64 n) rfl
              go_wp2_with fail
              refine (Hfa.out wX (Gr.rfl' _)).mono ?_
              rintro e w2 ⟨rfl, g2⟩
              replace g2 : Gr wX w2 := g2
              clear x0 x1 x2 x3 x4 x5 x6 x7 x8 x9
              have x0 := (HX.out.gr g2).cell 0 (v := .int .i64 2) rfl
              have x1 := (HX.out.gr g2).cell 1 (v := .int .i64 xa.k) rfl
              have x2 := (HX.out.gr g2).cell 2 (v := .int .i64 xa.n) rfl
              have x3 := (HX.out.gr g2).cell 3 (v := .string xa.s) rfl
              have x4 := (HX.out.gr g2).cell 4 (v := .slice xa.p xa.l.length xa.c) rfl
              have x5 := (HX.out.gr g2).cell 5 (v := .int .i64 xb.k) rfl
              have x6 := (HX.out.gr g2).cell 6 (v := .int .i64 xb.n) rfl
              have x7 := (HX.out.gr g2).cell 7 (v := .string xb.s) rfl
              have x8 := (HX.out.gr g2).cell 8 (v := .slice xb.p xb.l.length xb.c) rfl
              have x9 := (HX.out.gr g2).cell 9 (v := .int .i64 n) rfl
              go_wp2_with fail
              refine (Hrr.out w2 g2).mono ?_
              rintro e w3 ⟨g3, ⟨hE, -⟩ | ⟨hnf, u, rfl, -, -, -⟩⟩
              · have hfin := HR.out e w3 (.inr hE) ((gwX.trans g2).trans g3)
                rw [GrownE] at hE
                subst hE
                exact ⟨rfl, hfin⟩
              · have Htk : Hid (Took (seePrs lp) ⟨2, xa, xb, n⟩ (seePrs lp)) := by
                  show Took _ _ _
                  rw [Took, if_neg (fun h => by have h9 := h.1; simp at h9), if_neg (fun h => by have h9 := h.1; simp at h9), if_pos ⟨rfl, Hfm.out⟩]
                  refine ⟨fun r hr => ?_, rfl⟩
                  cases Hρ.out.same_out hr
                  exact hnf
                have g23 := g2.trans g3
                clear hnf x0 x1 x2 x3 x4 x5 x6 x7 x8 x9
                have Hrel := Lib.hid (show Runs (l.drop (k + 1)) (seePrs (lp)) → Runs l [] from Hnext.out _ (by exact Htk.out))
                go_wp2_with fail
                go_roundg (l.length - (k + 1))
                case measure => omega
                case rel => exact ⟨k + 1, _, lp, by omega, rfl, by go_num, (Lib.hid (Hrs2.out.gr (g23))), hrob, by omega, Hrel, gwX.trans (g23)⟩
          · have e2 : (kd == 2) = false := beq_eq_false_iff_ne.2 h2
            have Htk : Hid (Took (seePrs lp) ⟨kd, xa, xb, n⟩ (seePrs lp)) := by
              show Took _ _ _
              rw [Took, if_neg (fun h => h0 h.1), if_neg (fun h => h1 h.1), if_neg (fun h => h2 h.1)]
            clear h0 h1 h2
            have x0 := (HX.out).cell 0 (v := .int .i64 kd) rfl
            have x1 := (HX.out).cell 1 (v := .int .i64 xa.k) rfl
            have x2 := (HX.out).cell 2 (v := .int .i64 xa.n) rfl
            have x3 := (HX.out).cell 3 (v := .string xa.s) rfl
            have x4 := (HX.out).cell 4 (v := .slice xa.p xa.l.length xa.c) rfl
            have x5 := (HX.out).cell 5 (v := .int .i64 xb.k) rfl
            have x6 := (HX.out).cell 6 (v := .int .i64 xb.n) rfl
            have x7 := (HX.out).cell 7 (v := .string xb.s) rfl
            have x8 := (HX.out).cell 8 (v := .slice xb.p xb.l.length xb.c) rfl
            have x9 := (HX.out).cell 9 (v := .int .i64 n) rfl
            have Hrel := Lib.hid (show Runs (l.drop (k + 1)) (seePrs (lp)) → Runs l [] from Hnext.out _ (by exact Htk.out))
            go_wp2_with fail
            go_roundg (l.length - (k + 1))
            case measure => omega
            case rel => exact ⟨k + 1, _, lp, by omega, rfl, by go_num, (Lib.hid (Hrs2.out.gr (g0))), hrob, by omega, Hrel, gwX.trans (g0)⟩
    · obtain rfl : k = l.length := by omega
      have Hend := Lib.hid (hruns.out (by rw [List.drop_length]; trivial))
      go_wp2_with fail
      go_end0
      exact HR.out _ _ (.inl ⟨rfl, Hend.out⟩) gr

set_option maxHeartbeats 1000000 in
set_option maxRecDepth 100000 in
theorem playFits_calls (p : Option Addr) (c : Nat) (l : List Stp) (w : World) (h : SlOf Stp.cells (Stp.In w) 10 128 w p c l) :
    Calls Try.prog 17 #[.slice p l.length c] w (RetB (fun b => b = true → Runs l []) w) := by
  have hmf : ∀ (fn : Fn) (first cap : Array Value) (w : World), (Instr.makeFunc fn first cap).run Try.prog w = .ok (.func fn first cap) w := fun _ _ _ _ => rfl
  have HL := Lib.hid h
  have hR : Hid (∀ e w', RetB (fun b => b = true → Runs l []) w e w' → RetB (fun b => b = true → Runs l []) w e w') := fun e w' h1 => h1
  have hR2 : Hid (∀ e W w', Gr w W → RetB (fun b => b = true → Runs l []) W e w' → RetB (fun b => b = true → Runs l []) w e w') := fun e W w' h1 ⟨b, h2, h3, h4⟩ => ⟨b, h2, h3, h1.trans h4⟩
  generalize RetB (fun b => b = true → Runs l []) w = Q at hR hR2 ⊢
  have HR := hR2
  clear h hR hR2
  go_enter Try.func17, Try.ntmps17
  try simp only [List.append_eq, List.cons_append, List.nil_append]
  go_upto_region 1 with fail
  have hB := BlkT.new w 36 #[.slice p l.length c]
  have gA : Gr w (w.alloc (.cells #[.slice p l.length c] 36)) := by go_grown
  generalize w.alloc (.cells #[.slice p l.length c] 36) = wA at *
  have hf := fits_calls 81 #[.pointer (some ⟨w.heap.size, 0, none⟩)] (fun b => b = true → Runs l []) wA (fun W => rfl) (fun W g => fits1_calls p c l w.heap.size W ((HL.out.mono (gA.trans g)).imp fun y hy => hy.gr (gA.trans g)) (hB.gr g))
  have Hf := Lib.hid hf
  clear hf hB
  go_wp2_with fail
  refine Hf.out.mono ?_
  rintro e w1 h1
  have hfin := HR.out e wA w1 gA h1
  obtain ⟨b, rfl, -, -⟩ := h1
  have Hfin := Lib.hid hfin
  clear hfin
  go_wp2_with fail
  exact Hfin.out
end Go.Proofs.Ytmecghjnghhhkaa

namespace Go.Proofs.Ytmecghjnghhhkaa
open Go.RowKit

def StepK (R : World → World → Prop) (J : Array Bool → World → Prop) (P : Program) (ops : List Oper) (Vs : List VP) (a₀ : Act) (w₀ : World) (Q : Exit → Act → World → Prop) (i : Nat) (o : Oper) (V : VP) : Prop :=
  ∀ listed a w, J listed w → listed.getD i true = false → (∀ e ∈ o.after, Region.binds .any e = true → listed.getD e.on false = true) → R w₀ w → a.defers = a₀.defers → (∀ t, (dsts ops).contains t = false → a.tmps[t]?.getD undef = a₀.tmps[t]?.getD undef) →
    predsImp ops Vs a w (match o.guard with
      | none => (∀ K : Act → World → Prop, (∀ v w', V v w' → R w w' → J (listed.setIfInBounds i true) w' → K (a.put o.dst v) w') → o.wp P a w K Q)
      | some _ => if wantedE ops o a then (∀ K : Act → World → Prop, (∀ v w', V v w' → R w w' → J (listed.setIfInBounds i true) w' → K (a.put o.dst v) w') → o.wp P a w K Q) else V undef w ∧ J (listed.setIfInBounds i true) w) o.after.toList

def stepsK (R : World → World → Prop) (J : Array Bool → World → Prop) (P : Program) (ops : List Oper) (Vs : List VP) (a₀ : Act) (w₀ : World) (Q : Exit → Act → World → Prop) : List Oper → List VP → Nat → Prop
  | [], _, _ => True
  | o :: os, V :: Vs', i => StepK R J P ops Vs a₀ w₀ Q i o V ∧ stepsK R J P ops Vs a₀ w₀ Q os Vs' (i + 1)
  | _ :: _, [], _ => False

section
variable {P : Program} {ops : List Oper} {Vs : List VP} {a₀ : Act} {w₀ : World} {Q : Exit → Act → World → Prop} {R : World → World → Prop} {J : Array Bool → World → Prop}

theorem stepsK_at : ∀ {os : List Oper} {Vs' : List VP} {k i : Nat} {o : Oper}, stepsK R J P ops Vs a₀ w₀ Q os Vs' k → os[i]? = some o → StepK R J P ops Vs a₀ w₀ Q (k + i) o (Vs'.getD i (fun _ _ => True))
  | [], _, _, i, o, _, hi => by simp at hi
  | o' :: os, [], _, _, _, h, _ => h.elim
  | o' :: os, V :: Vs', k, 0, o, h, hi => by
    simp only [List.getElem?_cons_zero, Option.some.injEq] at hi
    subst hi
    exact h.1
  | o' :: os, V :: Vs', k, i + 1, o, h, hi => by
    simp only [List.getElem?_cons_succ] at hi
    have := stepsK_at h.2 hi
    rw [show k + 1 + i = k + (i + 1) by omega] at this
    simpa using this

theorem predsImp_imp {a : Act} {w : World} {G G' : Prop} (hG : G → G') : ∀ es : List Edge, predsImp ops Vs a w G es → predsImp ops Vs a w G' es
  | [] => hG
  | e :: es => fun h => by
    simp only [predsImp] at h ⊢
    split at h
    · rename_i hb
      rw [if_pos hb]
      cases hd : dstAt ops e.on with
      | none => simp only [hd] at h ⊢; exact predsImp_imp hG es h
      | some d => simp only [hd] at h ⊢; exact fun v h3 h4 => predsImp_imp hG es (h v h3 h4)
    · rename_i hb
      rw [if_neg hb]
      exact predsImp_imp hG es h

/-- An operation that turns nothing but new memory, and of which J does not speak. -/
theorem stepK_plain {i : Nat} {o : Oper} {V : VP} (hG : ∀ w w', Gr w w' → R w w') (hJ : ∀ listed w w', J listed w → Gr w w' → J (listed.setIfInBounds i true) w')
    (h : ∀ a w, R w₀ w → (∀ t, (dsts ops).contains t = false → a.tmps[t]?.getD undef = a₀.tmps[t]?.getD undef) →
      predsImp ops Vs a w (match o.guard with | none => (∀ K : Act → World → Prop, (∀ v w', V v w' → Gr w w' → K (a.put o.dst v) w') → o.wp P a w K Q) | some _ => if wantedE ops o a then (∀ K : Act → World → Prop, (∀ v w', V v w' → Gr w w' → K (a.put o.dst v) w') → o.wp P a w K Q) else V undef w) o.after.toList) :
    StepK R J P ops Vs a₀ w₀ Q i o V := by
  intro listed a w hj _ _ hr _ hf
  refine predsImp_imp ?_ _ (h a w hr hf)
  cases o.guard with
  | none => exact fun h2 K hK => h2 K fun v w' hv hg => hK v w' hv (hG _ _ hg) (hJ _ _ _ hj hg)
  | some g =>
    simp only
    split
    · exact fun h2 K hK => h2 K fun v w' hv hg => hK v w' hv (hG _ _ hg) (hJ _ _ _ hj hg)
    · exact fun h2 => ⟨h2, hJ _ _ _ hj (Gr.rfl' _)⟩

theorem wpAny_midK (hB : relyB ops a₀.tmps.size = true) (hR0 : ∀ w, R w w) (hRt : ∀ a b c, R a b → R b c → R a c) (hst : StableR R Vs) (hsteps : stepsK R J P ops Vs a₀ w₀ Q ops Vs 0)
    (hfin : ∀ listed a w, MidJ R J ops Vs a₀ w₀ listed a w → (∀ i, i < ops.length → listed.getD i false = true) → Q .normal a w) :
    ∀ (fuel : Nat) (listed : Array Bool) (a : Act) (w : World), listed.count false ≤ fuel → MidJ R J ops Vs a₀ w₀ listed a w → wpAny P .any ops.toArray Q fuel listed a w := by
  intro fuel
  induction fuel with
  | zero =>
    intro listed a w hc hm
    have hr : Region.ready .any ops.toArray listed = [] := by
      rw [List.eq_nil_iff_forall_not_mem]
      intro i hi
      obtain ⟨h0, _⟩ := mem_ready.1 hi
      have := count_set h0
      omega
    exact ⟨hr, hfin _ _ _ hm (all_listed hB hm.sz hr)⟩
  | succ fuel ih =>
    intro listed a w hc hm
    refine ⟨fun hr => hfin _ _ _ hm (all_listed hB hm.sz hr), fun i hi => ?_⟩
    obtain ⟨h0, o, ho, hall⟩ := mem_ready.1 hi
    have ho' : ops[i]? = some o := by simpa using ho
    have hstep := stepsK_at hsteps ho' listed a w hm.st (by rw [Nat.zero_add]; exact h0) (fun e he hb => hall e (by simpa using he) hb) hm.grown hm.defers (fun t ht => by
      have h1 := hm.old t (fun j oj hj hd => by
        have := mem_dsts hj hd
        rw [List.contains_eq_mem, decide_eq_false_iff_not] at ht
        exact absurd this ht)
      simp only [h1])
    rw [Nat.zero_add] at hstep
    have hres := predsImp_elim (fun e he hb d hd => by
      unfold dstAt at hd
      cases hoe : ops[e.on]? with
      | none => simp [hoe] at hd
      | some oe =>
        simp only [hoe, Option.bind_some] at hd
        have := hm.val e.on oe d hoe hd (hall e (by simpa using he) hb)
        rwa [Array.getD_eq_getD_getElem?] at this) hstep
    have hc' := count_set h0
    have hres : if wantedE ops o a then (∀ K : Act → World → Prop, (∀ v w', (Vs.getD i (fun _ _ => True)) v w' → R w w' → J (listed.setIfInBounds i true) w' → K (a.put o.dst v) w') → o.wp P a w K Q) else (Vs.getD i (fun _ _ => True)) undef w ∧ J (listed.setIfInBounds i true) w := by
      cases hgd : o.guard with
      | none =>
        have : wantedE ops o a = true := by simp [wantedE, hgd]
        rw [if_pos this]
        simpa only [hgd] using hres
      | some gw => simpa only [hgd] using hres
    unfold wpOp
    simp only [ho]
    rw [wantedE_eq]
    by_cases hw : wantedE ops o a = true
    · rw [if_pos hw]
      rw [if_pos hw] at hres
      refine .inl (hres _ fun v w' hv hg hj => ?_)
      exact ih _ _ _ (by omega) (mid_stepJ hB hRt hst hm ho' rfl hv hg hj)
    · rw [if_neg hw]
      rw [if_neg hw] at hres
      exact ih _ _ _ (by omega) (mid_stepJ hB hRt hst hm ho' rfl hres.1 (hR0 _) hres.2)

/-- THE RULE. -/
theorem wp_region_relyK {id : Nat} (Vs : List VP) (R : World → World → Prop) (J : Array Bool → World → Prop) (hm : P.follows .mixedOrders = true) (hB : relyB ops a₀.tmps.size = true)
    (hG : ∀ w w', Gr w w' → R w w') (hRt : ∀ a b c, R a b → R b c → R a c) (hJ0 : ∀ w, Gr w₀ w → J (Array.replicate ops.length false) w) (hst : StableR R Vs)
    (hsteps : stepsK R J P ops Vs a₀ w₀ Q ops Vs 0) (hfin : ∀ w, R w₀ w → J (Array.replicate ops.length true) w → finAll (Q .normal) w ops Vs a₀) : (Code.region id ops.toArray true).wp P Q a₀ w₀ := by
  refine wp_region_any hm ?_
  have := wpAny_midK (Q := Q) hB (fun w => hG _ _ (Gr.rfl' w)) hRt hst hsteps (fun listed a w hmid hall => mid_finJ hB hmid hall (hfin w hmid.grown (by
    have e : listed = Array.replicate ops.length true := by
      apply Array.ext
      · rw [Array.size_replicate]; exact hmid.sz
      · intro i h1 h2
        have h3 := hall i (by rw [Array.size_replicate] at h2; exact h2)
        rw [Array.getElem_replicate]
        simpa [h1] using h3
    rw [← e]
    exact hmid.st))) ops.length (Array.replicate ops.length false) a₀ { w₀ with drawn := w₀.drawn + 1 } (by simp) (mid_startJ (fun w h => hG _ _ h) hJ0 _ _)
  simpa using this
end
end Go.Proofs.Ytmecghjnghhhkaa
