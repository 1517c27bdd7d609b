/-
  grammar.words
  grammar's goals: what a walk through them keeps and hands back.
  grammar's goal of a variable, of an integer
-/
import Derived.Test.YteonakicoomjkaaGM17
namespace Go.Proofs.Yteonakicoomjkaa
open Go.RowKit Go.Lib

theorem words_nil {t r : T} (h : t.isOf sNil 0 = true) : T.words t r = some r := by
  obtain ⟨k, n, s, l⟩ := t
  rw [T.words.eq_def]; dsimp only; rw [if_pos h]
theorem words_not {t r : T} (h : t.isOf sNil 0 = false) (h2 : t.isOf sDot 2 = false) : T.words t r = none := by
  obtain ⟨k, n, s, l⟩ := t
  rw [T.words.eq_def]; dsimp only; rw [if_neg (by rw [h]; decide), if_neg (by rw [h2]; decide)]
theorem words_dot {k n : Int} {s : List UInt8} {x y r : T} (h : (T.mk k n s [x, y]).isOf sNil 0 = false) (h2 : (T.mk k n s [x, y]).isOf sDot 2 = true) : T.words (.mk k n s [x, y]) r = (T.words y r).map fun u => compT sDot [x, u] := by
  rw [T.words.eq_def]; dsimp only; rw [if_neg (by rw [h]; decide), if_pos h2]
theorem blNil : (ByteArray.mk #[91, 93]).toList = sNil := by rw [ByteArray.toList_mk]; rfl
theorem blDot : (ByteArray.mk #[46]).toList = sDot := by rw [ByteArray.toList_mk]; rfl
theorem blCurl : (ByteArray.mk #[123, 125]).toList = sCurl := by rw [ByteArray.toList_mk]; rfl
theorem blCut : (ByteArray.mk #[33]).toList = sCut := by rw [ByteArray.toList_mk]; rfl
theorem blNot : (ByteArray.mk #[92, 43]).toList = sNot := by rw [ByteArray.toList_mk]; rfl
theorem blRule : (ByteArray.mk #[45, 45, 62]).toList = sRule := by rw [ByteArray.toList_mk]; rfl

/-- It is there, and this term. -/
def okTm (S : Nat → Prop) (r : Option T) : VP := fun v w => ∃ u, r = some u ∧ tmIs S u v w
theorem okTm_gr {S : Nat → Prop} {r : Option T} : ∀ v w w', okTm S r v w → Gr w w' → okTm S r v w' := fun v w w' ⟨u, h1, h2⟩ hg => ⟨u, h1, tmIs_stable v w w' h2 hg⟩
def okSl (S : Nat → Prop) (r : Option (List T)) : VP := fun v w => ∃ u, r = some u ∧ slIs S u v w
theorem okSl_gr {S : Nat → Prop} {r : Option (List T)} : ∀ v w w', okSl S r v w → Gr w w' → okSl S r v w' := fun v w w' ⟨u, h1, h2⟩ hg => ⟨u, h1, slIs_stable v w w' h2 hg⟩

/-- A new slice of two terms, of one term: what it is. -/
theorem slIs_two {S : Nat → Prop} {x y : Tm} {w : World} {b : Nat} (h : Tm.Sl w (some ⟨b, 0, none⟩) 2 [x, y]) (hx : x.On S) (hy : y.On S) (hb : S b) : slIs S [x.erase, y.erase] (.slice (some ⟨b, 0, none⟩) 2 2) w :=
  ⟨_, _, [x, y], rfl, h, by rw [Tm.eraseL, Tm.eraseL, Tm.eraseL], .inr ⟨_, _, rfl, hb⟩, by rw [Tm.OnL, Tm.OnL, Tm.OnL]; exact ⟨hx, hy, trivial⟩⟩
theorem slIs_one {S : Nat → Prop} {x : Tm} {w : World} {b : Nat} (h : Tm.Sl w (some ⟨b, 0, none⟩) 1 [x]) (hx : x.On S) (hb : S b) : slIs S [x.erase] (.slice (some ⟨b, 0, none⟩) 1 1) w :=
  ⟨_, _, [x], rfl, h, by rw [Tm.eraseL, Tm.eraseL], .inr ⟨_, _, rfl, hb⟩, by rw [Tm.OnL, Tm.OnL]; exact ⟨hx, trivial⟩⟩
/-- term.C over a slice of which that much is known. -/
theorem comp_ok {S : Nat → Prop} {s : ByteArray} {l : List T} {v : Value} {w : World} (h : slIs S l v w) (hs : s.size ≤ 140737488351232) :
    Calls Try.prog 84 #[.string s, v] w fun e w' => ∃ v', e = .returned v' ∧ tmIs S (compT s.toList l) v' w' ∧ Gr w w' := by
  obtain ⟨p, c, k, rfl, hsl, rfl, hon⟩ := h
  refine (comp_calls _ _ _ _ _).mono ?_
  rintro e w' ⟨rfl, hg⟩
  exact ⟨_, rfl, ⟨compTm s p c k, rfl, compTm_in hs (hsl.mono hg), rfl, by rw [compTm, Tm.On]; exact hon⟩, hg⟩

theorem erase_two {l : List Tm} {X Y : T} (h : Tm.eraseL l = [X, Y]) : ∃ x y, l = [x, y] := by
  match l, h with
  | [x, y], _ => exact ⟨x, y, rfl⟩
  | [], h => rw [Tm.eraseL] at h; cases h
  | [_], h => rw [Tm.eraseL, Tm.eraseL] at h; cases h
  | _ :: _ :: _ :: _, h => rw [Tm.eraseL, Tm.eraseL, Tm.eraseL] at h; cases h
theorem erase_one {l : List Tm} {X : T} (h : Tm.eraseL l = [X]) : ∃ x, l = [x] := by
  match l, h with
  | [x], _ => exact ⟨x, rfl⟩
  | [], h => rw [Tm.eraseL] at h; cases h
  | _ :: _ :: _, h => rw [Tm.eraseL, Tm.eraseL] at h; cases h
theorem isOf_twoTm {t : Tm} {s : List UInt8} (h : t.erase.isOf s 2 = true) : ∃ x y, t.l = [x, y] := by
  obtain ⟨k, n, X, Y, he⟩ := isOf_two h
  obtain ⟨k', n', s', p', c', l'⟩ := t
  rw [Tm.erase] at he
  injection he with _ _ _ he
  exact erase_two he
theorem isOf_oneTm {t : Tm} {s : List UInt8} (h : t.erase.isOf s 1 = true) : ∃ x, t.l = [x] := by
  obtain ⟨k, n, X, he⟩ := isOf_one h
  obtain ⟨k', n', s', p', c', l'⟩ := t
  rw [Tm.erase] at he
  injection he with _ _ _ he
  exact erase_one he

def wordsOf (t : Tm) : Prop := ∀ (r : Tm) (S : Nat → Prop) (w : World), t.In w → r.In w → t.On S → r.On S → (∀ c, w.heap.size ≤ c → S c) → t.erase.formed = true →
  Calls Try.prog 149 #[t.val, r.val] w (RetP S (T.words t.erase r.erase) w)

set_option maxHeartbeats 4000000 in
set_option maxRecDepth 100000 in
theorem words_walk (t : Tm) (ih : ∀ x ∈ t.l, wordsOf x) : wordsOf t := by
  intro r S w ht hr hto hro hS hf
  generalize hQ : RetP S (T.words t.erase r.erase) w = Q
  have HQ := Lib.hid hQ
  have Ht := Lib.hid ht
  have Hr := Lib.hid hr
  have Hto := Lib.hid hto
  have Hro := Lib.hid hro
  have HS := Lib.hid hS
  have Hf := Lib.hid hf
  have Hih := Lib.hid ih
  clear hQ ht hr hto hro hS hf ih
  have Htv := Lib.hid (show t.val = .agg #[.int .i64 t.k, .int .i64 t.n, .string t.s, .slice t.p t.l.length t.c] from rfl)
  simp only [Tm.val]
  go_enter Try.func149, Try.ntmps149
  try simp only [List.append_eq, List.cons_append, List.nil_append]
  go_upto_region 1 with fail
  obtain ⟨HT, HB, HR, gA, hsA⟩ := three_blocks w (.int .i64 t.k) (.int .i64 t.n) (.string t.s) (.slice t.p t.l.length t.c) (.int .i64 r.k) (.int .i64 r.n) (.string r.s) (.slice r.p r.l.length r.c) (.int .i64 0) (.int .i64 0) (.string ⟨#[]⟩) (.slice none 0 0)
  generalize (((w.alloc (.cells #[.int .i64 t.k, .int .i64 t.n, .string t.s, .slice t.p t.l.length t.c] 24)).alloc (.cells #[.int .i64 r.k, .int .i64 r.n, .string r.s, .slice r.p r.l.length r.c] 24)).alloc (.cells #[.int .i64 0, .int .i64 0, .string ⟨#[]⟩, .slice none 0 0] 24)) = wA at *
  have HsA := Lib.hid hsA
  clear hsA
  obtain ⟨⟨t0, t1, t2, t3⟩, _, _⟩ := HT.out.parts
  have H1 := Lib.hid (show t.erase.isOf (ByteArray.mk #[91, 93]).toList 0 = t.erase.isOf sNil 0 by rw [blNil])
  have H2 := Lib.hid (show t.erase.isOf (ByteArray.mk #[46]).toList 2 = t.erase.isOf sDot 2 by rw [blDot])
  cases hn : t.erase.isOf sNil 0 with
  | true =>
    have hv := Lib.hid (words_nil (r := r.erase) hn)
    go_upto_region 2 with (first
      | (go_at_call 76; rewrite [← Htv.out]; refine (is_calls _ _ _ _).mono ?_; rintro e w1 ⟨rfl, hb⟩; rewrite [H1.out, hn]; have gB := hb; clear hb)
      | fail)
    have gw : Gr w w1 := Gr.trans gA gB
    obtain ⟨⟨b0, b1, b2, b3⟩, _, _⟩ := (HB.out.gr gB).parts
    obtain ⟨⟨y0, y1, y2, y3⟩, ⟨f0, f1, f2, f3⟩, hlt⟩ := (HR.out.gr gB).parts
    go_wp2_with fail
    refine bodyPost_ret (v := r.val) (by simp (maxDischargeDepth := 9) [results, Try.results149, go_sem, Tm.val, y0, y1, y2, y3]) rfl ?_
    rw [← HQ.out]
    exact .inl ⟨_, hv.out, ret_tm (Tm.In_below gw Hr.out) rfl (on_but (R := w.heap.size + 1 + 1) Hr.out Hro.out (by omega)) (fun _ h => h.1) (fun _ h => h.2) gw (by omega) _ _ _ _⟩
  | false =>
    cases hd : t.erase.isOf sDot 2 with
    | false =>
      have hv := Lib.hid (words_not (r := r.erase) hn hd)
      go_wp2_with (first
        | (go_at_call 76; rewrite [← Htv.out]; refine (is_calls _ _ _ _).mono ?_; rintro e w1 ⟨rfl, hb⟩; (first | rewrite [H1.out, hn] | rewrite [H2.out, hd]); replace gA := Gr.trans gA hb; replace HT := Lib.hid (HT.out.gr hb); clear t0 t1 t2 t3 hb; obtain ⟨⟨t0, t1, t2, t3⟩, _, _⟩ := HT.out.parts)
        | (go_at_call 87; refine (fail_calls _ _).mono ?_; rintro e w2 ⟨rfl, hb2⟩)
        | fail)
      refine ⟨rfl, ?_⟩
      rw [← HQ.out]
      exact .inr ⟨hv.out, ⟨_, rfl⟩, Gr.trans gA hb2⟩
    | true =>
      go_upto_region 5 with (first
        | (go_at_call 76; rewrite [← Htv.out]; refine (is_calls _ _ _ _).mono ?_; rintro e w1 ⟨rfl, hb⟩; (first | rewrite [H1.out, hn] | rewrite [H2.out, hd]); replace gA := Gr.trans gA hb; replace HT := Lib.hid (HT.out.gr hb); replace HB := Lib.hid (HB.out.gr hb); replace HR := Lib.hid (HR.out.gr hb); clear t0 t1 t2 t3 hb; obtain ⟨⟨t0, t1, t2, t3⟩, _, _⟩ := HT.out.parts)
        | fail)
      obtain ⟨x, y, hl⟩ := isOf_twoTm hd
      obtain ⟨k, n, s, p, c, l⟩ := t
      simp only [Tm.l] at hl
      subst hl
      dsimp only [Tm.k, Tm.n, Tm.s, Tm.p, Tm.c, Tm.l] at *
      have hv := Lib.hid (words_dot (k := k) (n := n) (s := s.toList) (x := x.erase) (y := y.erase) (r := r.erase) (by rw [Tm.erase, Tm.eraseL, Tm.eraseL, Tm.eraseL] at hn; exact hn) (by rw [Tm.erase, Tm.eraseL, Tm.eraseL, Tm.eraseL] at hd; exact hd))
      have HE := Lib.hid (show (Tm.mk k n s p c [x, y]).erase = .mk k n s.toList [x.erase, y.erase] by rw [Tm.erase, Tm.eraseL, Tm.eraseL, Tm.eraseL])
      obtain ⟨b, o, rfl⟩ := Ht.out.sl.ptr (by simp)
      obtain ⟨⟨x0, x1, x2, x3⟩, hxi, _⟩ := (Ht.out.sl.mono gA).elem 0 (by simp)
      obtain ⟨⟨z0, z1, z2, z3⟩, hyi, _⟩ := (Ht.out.sl.mono gA).elem 1 (by simp)
      simp only [List.getElem_cons_zero, List.getElem_cons_succ, Nat.zero_mul, Nat.add_zero, Nat.one_mul] at x0 x1 x2 x3 z0 z1 z2 z3 hxi hyi
      have hon2 := Hto.out
      rw [Tm.On, Tm.OnL, Tm.OnL] at hon2
      have hxw : x.In w := Tm.InL_mem (by have h := Ht.out; rw [Tm.In] at h; exact h.2.2.2.2.2.2) x (by simp)
      have hyw : y.In w := Tm.InL_mem (by have h := Ht.out; rw [Tm.In] at h; exact h.2.2.2.2.2.2) y (by simp)
      have hf2 := formed_two_inv (x := x.erase) (y := y.erase) (by have := Hf.out; rw [HE.out] at this; exact this)
      have Hxi := Lib.hid hxi
      have Hyi := Lib.hid hyi
      have Hyf := Lib.hid hf2.2.2.2.2
      have Hxo2 := Lib.hid (on_but (R := w.heap.size + 1 + 1) hxw hon2.2.1 (by omega))
      have Hyo2 := Lib.hid (on_but (R := w.heap.size + 1 + 1) hyw hon2.2.2.1 (by omega))
      have Hro2 := Lib.hid (on_but (R := w.heap.size + 1 + 1) Hr.out Hro.out (by omega))
      have hsz1 : w.heap.size + 1 + 1 < w1.heap.size := HR.out.parts.2.2
      have hS2 : ∀ c, w1.heap.size ≤ c → (fun b => S b ∧ b ≠ w.heap.size + 1 + 1) c := fun c hc => ⟨HS.out c (Nat.le_trans gA.size hc), by omega⟩
      have hS3 : (∀ b, (fun b => S b ∧ b ≠ w.heap.size + 1 + 1) b → S b) ∧ (∀ b, (fun b => S b ∧ b ≠ w.heap.size + 1 + 1) b → b ≠ w.heap.size + 1 + 1) := ⟨fun _ h => h.1, fun _ h => h.2⟩
      generalize (fun b => S b ∧ b ≠ w.heap.size + 1 + 1) = S2 at Hxo2 Hyo2 Hro2 hS3 hS2
      have HS2 := Lib.hid hS2
      have HS3 := Lib.hid hS3
      have Hix := Lib.hid (Hih.out y (by simp))
      have Hxv := Lib.hid (show x.val = .agg #[.int .i64 x.k, .int .i64 x.n, .string x.s, .slice x.p x.l.length x.c] from rfl)
      have Hyv := Lib.hid (show y.val = .agg #[.int .i64 y.k, .int .i64 y.n, .string y.s, .slice y.p y.l.length y.c] from rfl)
      have Hrv := Lib.hid (show r.val = .agg #[.int .i64 r.k, .int .i64 r.n, .string r.s, .slice r.p r.l.length r.c] from rfl)
      obtain ⟨⟨b0, b1, b2, b3⟩, _, _⟩ := HB.out.parts
      clear hxi hyi hon2 hf2 hS2 hS3 hxw hyw
      refine wp_region_relyJ 12 [fx (.pointer (some ⟨w.heap.size, 3, none⟩)), fx (.slice (some ⟨b, o, none⟩) 2 c), fx (.pointer (some ⟨b, o, none⟩)), fx (.agg #[.int .i64 x.k, .int .i64 x.n, .string x.s, .slice x.p x.l.length x.c]), fx (.pointer (some ⟨w.heap.size, 3, none⟩)), fx (.slice (some ⟨b, o, none⟩) 2 c), fx (.pointer (some ⟨b, o + 4, none⟩)), fx (.agg #[.int .i64 y.k, .int .i64 y.n, .string y.s, .slice y.p y.l.length y.c]), fx (.agg #[.int .i64 r.k, .int .i64 r.n, .string r.s, .slice r.p r.l.length r.c]), okTm S2 (T.words y.erase r.erase), okSl S2 ((T.words y.erase r.erase).map fun u => [x.erase, u]), okTm S2 ((T.words y.erase r.erase).map fun u => compT sDot [x.erase, u])]
        Gr (fun _ _ => True) (by kernel_rfl) (by kernel_rfl) (by decide) (by kernel_rfl) (fun _ _ h => h) (fun _ _ _ h k => Gr.trans h k) (fun _ _ => trivial) (by repeat (first | exact StableR.nil | refine StableR.fix ?_ | refine StableR.cons okTm_gr ?_ | refine StableR.cons okSl_gr ?_)) ?_ ?_
      · refine ⟨stepJ_plain (fun _ _ h => h) (fun _ _ _ _ _ => trivial) ?_, stepJ_plain (fun _ _ h => h) (fun _ _ _ _ _ => trivial) ?_, stepJ_plain (fun _ _ h => h) (fun _ _ _ _ _ => trivial) ?_, stepJ_plain (fun _ _ h => h) (fun _ _ _ _ _ => trivial) ?_, stepJ_plain (fun _ _ h => h) (fun _ _ _ _ _ => trivial) ?_, stepJ_plain (fun _ _ h => h) (fun _ _ _ _ _ => trivial) ?_, stepJ_plain (fun _ _ h => h) (fun _ _ _ _ _ => trivial) ?_, stepJ_plain (fun _ _ h => h) (fun _ _ _ _ _ => trivial) ?_, stepJ_plain (fun _ _ h => h) (fun _ _ _ _ _ => trivial) ?_, ?a9, stepJ_plain (fun _ _ h => h) (fun _ _ _ _ _ => trivial) ?b10, stepJ_plain (fun _ _ h => h) (fun _ _ _ _ _ => trivial) ?b11, trivial⟩
        case a9 =>
          intro listed fr wr hj hl hpre hg hdef hold
          have Hdef := Lib.hid hdef
          clear hdef
          have h2 : fr.tmps[2]?.getD undef = .pointer (some ⟨w.heap.size, 0, none⟩) := hold 2 rfl
          have h3 : fr.tmps[3]?.getD undef = .pointer (some ⟨w.heap.size + 1, 0, none⟩) := hold 3 rfl
          clear hold
          have t0' := Gr.at hg t0
          have t1' := Gr.at hg t1
          have t2' := Gr.at hg t2
          have t3' := Gr.at hg t3
          have b0' := Gr.at hg b0
          have b1' := Gr.at hg b1
          have b2' := Gr.at hg b2
          have b3' := Gr.at hg b3
          have x0' := Gr.at hg x0
          have x1' := Gr.at hg x1
          have x2' := Gr.at hg x2
          have x3' := Gr.at hg x3
          have z0' := Gr.at hg z0
          have z1' := Gr.at hg z1
          have z2' := Gr.at hg z2
          have z3' := Gr.at hg z3
          have gr := Gr.trans gA hg
          clear t0 t1 t2 t3 b0 b1 b2 b3 x0 x1 x2 x3 z0 z1 z2 z3
          simp [predsImp, Region.binds, dstAt, fx]
          intro h19 h20 K hK
          go_simp
          rewrite [← Hyv.out, ← Hrv.out]
          refine (Hix.out r S2 wr (Tm.In_below hg Hyi.out) (Tm.In_below gr Hr.out) Hyo2.out Hro2.out (fun c hc => HS2.out c (Nat.le_trans hg.size hc)) Hyf.out).mono ?_
          rintro e w10 (⟨u, hu, bm, hin, he, rfl, hg2, hon⟩ | ⟨hu, ⟨c9, rfl⟩, hg2⟩)
          · exact hK _ _ ⟨u, hu, bm, rfl, hin, he, hon⟩ hg2
          · refine (show bodyPost _ _ _ (.panic _) _ _ from ⟨Hdef.out, ?_⟩)
            rw [← HQ.out, HE.out]
            exact .inr ⟨by rw [hv.out, hu]; rfl, ⟨_, rfl⟩, Gr.trans gr hg2⟩
        case b10 =>
          intro fr wr hg hold
          have h2 : fr.tmps[2]?.getD undef = .pointer (some ⟨w.heap.size, 0, none⟩) := hold 2 rfl
          have h3 : fr.tmps[3]?.getD undef = .pointer (some ⟨w.heap.size + 1, 0, none⟩) := hold 3 rfl
          clear hold
          have t0' := Gr.at hg t0
          have t1' := Gr.at hg t1
          have t2' := Gr.at hg t2
          have t3' := Gr.at hg t3
          have b0' := Gr.at hg b0
          have b1' := Gr.at hg b1
          have b2' := Gr.at hg b2
          have b3' := Gr.at hg b3
          have x0' := Gr.at hg x0
          have x1' := Gr.at hg x1
          have x2' := Gr.at hg x2
          have x3' := Gr.at hg x3
          have z0' := Gr.at hg z0
          have z1' := Gr.at hg z1
          have z2' := Gr.at hg z2
          have z3' := Gr.at hg z3
          have gr := Gr.trans gA hg
          clear t0 t1 t2 t3 b0 b1 b2 b3 x0 x1 x2 x3 z0 z1 z2 z3
          simp [predsImp, Region.binds, dstAt, fx]
          rintro h15 ⟨u, hu, bm, e21, hin, he, hon⟩ K hK
          replace e21 : fr.tmps[21]?.getD undef = .agg #[.int .i64 bm.k, .int .i64 bm.n, .string bm.s, .slice bm.p bm.l.length bm.c] := e21
          go_simp
          exact hK _ _ ⟨_, by rw [hu]; rfl, he ▸ slIs_two (two_new (t := x) (u := bm) (Tm.In_below hg Hxi.out) hin (Gr.rfl' _)) Hxo2.out hon (HS2.out _ hg.size)⟩ (by go_grown)
        case b11 =>
          intro fr wr hg hold
          have h2 : fr.tmps[2]?.getD undef = .pointer (some ⟨w.heap.size, 0, none⟩) := hold 2 rfl
          have h3 : fr.tmps[3]?.getD undef = .pointer (some ⟨w.heap.size + 1, 0, none⟩) := hold 3 rfl
          clear hold
          have t0' := Gr.at hg t0
          have t1' := Gr.at hg t1
          have t2' := Gr.at hg t2
          have t3' := Gr.at hg t3
          have b0' := Gr.at hg b0
          have b1' := Gr.at hg b1
          have b2' := Gr.at hg b2
          have b3' := Gr.at hg b3
          have x0' := Gr.at hg x0
          have x1' := Gr.at hg x1
          have x2' := Gr.at hg x2
          have x3' := Gr.at hg x3
          have z0' := Gr.at hg z0
          have z1' := Gr.at hg z1
          have z2' := Gr.at hg z2
          have z3' := Gr.at hg z3
          have gr := Gr.trans gA hg
          clear t0 t1 t2 t3 b0 b1 b2 b3 x0 x1 x2 x3 z0 z1 z2 z3
          simp [predsImp, Region.binds, dstAt]
          rintro ⟨u', hu', hsl⟩ _ K hK
          go_simp
          refine (comp_ok (s := ⟨#[46]⟩) hsl (by decide)).mono ?_
          rintro e w10 ⟨v', rfl, ht, hg2⟩
          rw [blDot] at ht
          rw [Option.map_eq_some_iff] at hu'
          obtain ⟨u, hu, rfl⟩ := hu'
          exact hK _ _ ⟨_, by rw [hu]; rfl, ht⟩ hg2
        all_goals
          intro fr wr hg hold
          have h2 : fr.tmps[2]?.getD undef = .pointer (some ⟨w.heap.size, 0, none⟩) := hold 2 rfl
          have h3 : fr.tmps[3]?.getD undef = .pointer (some ⟨w.heap.size + 1, 0, none⟩) := hold 3 rfl
          clear hold
          have t0' := Gr.at hg t0
          have t1' := Gr.at hg t1
          have t2' := Gr.at hg t2
          have t3' := Gr.at hg t3
          have b0' := Gr.at hg b0
          have b1' := Gr.at hg b1
          have b2' := Gr.at hg b2
          have b3' := Gr.at hg b3
          have x0' := Gr.at hg x0
          have x1' := Gr.at hg x1
          have x2' := Gr.at hg x2
          have x3' := Gr.at hg x3
          have z0' := Gr.at hg z0
          have z1' := Gr.at hg z1
          have z2' := Gr.at hg z2
          have z3' := Gr.at hg z3
          have gr := Gr.trans gA hg
          clear t0 t1 t2 t3 b0 b1 b2 b3 x0 x1 x2 x3 z0 z1 z2 z3
          simp [predsImp, Region.binds, dstAt, fx]
          intros
          rename_i K hK
          go_simp
        all_goals exact hK _ _ rfl (Gr.rfl' _)
      · intro w9 hg _
        rintro _ rfl _ rfl _ rfl _ rfl _ rfl _ rfl _ rfl _ rfl _ rfl v9 _ v10 _ v11 ⟨u, hu, bm, rfl, hin, he, hon⟩
        have Hin := Lib.hid hin
        have He := Lib.hid he
        have Hon := Lib.hid hon
        have Hu := Lib.hid hu
        have g9 : Gr w w9 := Gr.trans gA hg
        obtain ⟨⟨y0, y1, y2, y3⟩, ⟨f0, f1, f2, f3⟩, hlt⟩ := (HR.out.gr hg).parts
        have Hbv := Lib.hid (show bm.val = .agg #[.int .i64 bm.k, .int .i64 bm.n, .string bm.s, .slice bm.p bm.l.length bm.c] from rfl)
        clear hin he hon hg hu t0 t1 t2 t3 b0 b1 b2 b3 x0 x1 x2 x3 z0 z1 z2 z3
        rw [Hbv.out]
        simp only [finAll, Act.put, List.setIfInBounds_toArray, List.set_cons_succ, List.set_cons_zero, List.drop_succ_cons, List.drop_zero, List.take_zero]
        go_wp2_with fail
        refine bodyPost_ret (v := bm.val) (by simp (maxDischargeDepth := 9) [results, Try.results149, go_sem, Tm.val, y0, y1, y2, y3]) rfl ?_
        rw [← HQ.out, HE.out]
        exact .inl ⟨_, hv.out.trans Hu.out, ret_tm Hin.out He.out Hon.out HS3.out.1 HS3.out.2 g9 (by omega) _ _ _ _⟩

theorem words_any (N : Nat) : ∀ t : Tm, SizeOf.sizeOf t ≤ N → wordsOf t := by
  induction N with
  | zero => intro t h; cases t; simp at h
  | succ N ih =>
    intro t h
    refine words_walk t fun x hx => ih x ?_
    obtain ⟨k, n, s, p, c, l⟩ := t
    have := Tm.sizeOf_mem (l := l) hx k n s p c
    omega
theorem words_calls (t r : Tm) (S : Nat → Prop) (w : World) (ht : t.In w) (hr : r.In w) (hto : t.On S) (hro : r.On S) (hS : ∀ c, w.heap.size ≤ c → S c) (hf : t.erase.formed = true) :
    Calls Try.prog 149 #[t.val, r.val] w (RetP S (T.words t.erase r.erase) w) := words_any _ t (Nat.le_refl _) r S w ht hr hto hro hS hf
end Go.Proofs.Yteonakicoomjkaa

namespace Go.Proofs.Yteonakicoomjkaa
open Go.RowKit Go.Lib

theorem MakerAt.gr {M : Nat} {n : Int} {w w' : World} (h : MakerAt M n w) (hg : Gr w w') : MakerAt M n w' := (hg.block M (Array.getElem?_eq_some_iff.1 h).1).trans h
theorem MakerAt.lt {M : Nat} {n : Int} {w : World} (h : MakerAt M n w) : M < w.heap.size := (Array.getElem?_eq_some_iff.1 h).1
theorem MakerAt.kp {M : Nat} {n : Int} {w w' : World} {C : Nat → Prop} (h : MakerAt M n w) (hg : Kp C w w') (hM : ¬ C M) : MakerAt M n w' := (hg.block M h.lt hM).trans h

theorem in_kp {t : Tm} {S C : Nat → Prop} {w w' : World} (hin : t.In w) (hon : t.On S) (hS : ∀ b, S b → ¬ C b) (hk : Kp C w w') : t.In w' :=
  in_after' hin hon fun b h1 h2 _ => World.cell?_of_block (hk.block b h2 (hS b h1))
theorem tmIs_kp {S C : Nat → Prop} {u : T} (hS : ∀ b, S b → ¬ C b) : ∀ v w w', tmIs S u v w → Kp C w w' → tmIs S u v w' :=
  fun _ _ _ ⟨b, h1, h2, h3, h4⟩ hk => ⟨b, h1, in_kp h2 h4 hS hk, h3, h4⟩
theorem slIs_kp {S C : Nat → Prop} {l : List T} (hS : ∀ b, S b → ¬ C b) : ∀ v w w', slIs S l v w → Kp C w w' → slIs S l v w' :=
  fun _ w w' ⟨p, c, k, h1, h2, h3, h4⟩ hk => ⟨p, c, k, h1, Tm.Sl.same (S := fun b => S b ∧ b < w.heap.size) (fun b hb o => World.cell?_of_block (hk.block b hb.2 (hS b hb.1))) h2 (by
    obtain ⟨h5, h6⟩ := h4
    obtain ⟨h7, h8⟩ := h2.on
    refine ⟨?_, Tm.OnL_of fun x hx => Tm.On.and (Tm.OnL_mem h6 x hx) (Tm.OnL_mem h8 x hx)⟩
    rcases h5 with h5 | ⟨b, o, hp, hb⟩
    · exact .inl h5
    · rcases h7 with h7 | ⟨b', o', hp', hb'⟩
      · exact .inl h7
      · rw [hp] at hp'
        cases hp'
        exact .inr ⟨b, o, hp, hb, hb'⟩), h3, h4⟩

mutual
/-- No term's row lies on the maker's block. -/
theorem on_maker {M : Nat} {n : Int} {w : World} (hM : MakerAt M n w) : ∀ {t : Tm}, t.In w → t.On (· ≠ M)
  | .mk k _ s p c l, h => by
    rw [Tm.In] at h
    rw [Tm.On]
    refine ⟨?_, on_makerL hM h.2.2.2.2.2.2⟩
    rcases h.2.2.2.2.2.1 with h1 | ⟨b, o, hp, hr⟩
    · exact .inl h1
    · match l, hr with
      | [], _ => exact .inl rfl
      | x :: xs, hr =>
        refine .inr ⟨b, o, hp, ?_⟩
        rintro rfl
        obtain ⟨_, _, _, c3⟩ := hr 0 x rfl
        rw [cell_of_row w b _ _ _ _ hM] at c3
        simp at c3
theorem on_makerL {M : Nat} {n : Int} {w : World} (hM : MakerAt M n w) : ∀ {l : List Tm}, Tm.InL w l → Tm.OnL (· ≠ M) l
  | [], _ => by rw [Tm.OnL]; trivial
  | _ :: _, h => by
    rw [Tm.InL] at h
    rw [Tm.OnL]
    exact ⟨on_maker hM h.1, on_makerL hM h.2⟩
end

/-- What a goal's walk starts with. -/
structure GIn (t x y : Tm) (M : Nat) (m : Int) (w : World) : Prop where
  ht : t.In w
  hx : x.In w
  hy : y.In w
  hM : MakerAt M m w
  hf : t.erase.formed = true
  fx : x.erase.fmd = true
  fy : y.erase.fmd = true
  hm : 0 ≤ m ∧ m + (t.erase.size : Int) ≤ 1099515822080

/-- A goal is handed back, and the maker's next number is that; or what can't be is thrown. -/
def RetG (r : Option (T × Int)) (M : Nat) (w : World) (e : Ending) (w' : World) : Prop :=
  (∃ u m', r = some (u, m') ∧ ∃ b : Tm, e = .returned b.val ∧ b.In w' ∧ b.erase = u ∧ MakerAt M m' w' ∧ Kp (· = M) w w') ∨ (r = none ∧ WrongE e ∧ Kp (· = M) w w')

def goalOf (t : Tm) : Prop := ∀ (x y : Tm) (M : Nat) (m : Int) (w : World), GIn t x y M m w →
  Calls Try.prog 85 #[.pointer (some ⟨M, 0, none⟩), t.val, x.val, y.val] w (RetG (T.goal reserved t.erase x.erase y.erase m) M w)

theorem ret_gm {S2 : Nat → Prop} {bm : Tm} {u : T} {m : Int} {M : Nat} {w w' : World} {R : Nat} (hin : bm.In w') (he : bm.erase = u) (hon : bm.On S2) (h2 : ∀ b, S2 b → b ≠ R) (hk : Kp (· = M) w w') (hR : w.heap.size ≤ R) (hM : MakerAt M m w') (hMR : M ≠ R) (v0 v1 v2 v3 : Value) :
    RetG (some (u, m)) M w (.returned bm.val) ((((w'.setCell ⟨R, 0, none⟩ v0).setCell ⟨R, 1, none⟩ v1).setCell ⟨R, 2, none⟩ v2).setCell ⟨R, 3, none⟩ v3) := by
  have k4 : Kp (· = R) w' ((((w'.setCell ⟨R, 0, none⟩ v0).setCell ⟨R, 1, none⟩ v1).setCell ⟨R, 2, none⟩ v2).setCell ⟨R, 3, none⟩ v3) := Kp.set4 (C := fun b => b = R) rfl
  exact .inl ⟨u, m, rfl, bm, rfl, in_kp hin hon (fun b hb => h2 b hb) k4, he, hM.kp k4 (fun e => hMR e),
    ((hk.mono (C' := fun b => b = M ∨ b = R) fun _ h => .inl h).trans (k4.mono fun _ h => .inr h)).weaken fun b hb hc => hc.resolve_right (by omega)⟩

theorem four_blocks (w : World) (v0 v1 v2 v3 u0 u1 u2 u3 x0 x1 x2 x3 z0 z1 z2 z3 : Value) (W : World)
    (hW : W = ((((w.alloc (.cells #[v0, v1, v2, v3] 24)).alloc (.cells #[u0, u1, u2, u3] 24)).alloc (.cells #[x0, x1, x2, x3] 24)).alloc (.cells #[z0, z1, z2, z3] 24))) :
    Hid (Blk4 W w.heap.size v0 v1 v2 v3) ∧ Hid (Blk4 W (w.heap.size + 1) u0 u1 u2 u3) ∧ Hid (Blk4 W (w.heap.size + 1 + 1) x0 x1 x2 x3) ∧ Hid (Blk4 W (w.heap.size + 1 + 1 + 1) z0 z1 z2 z3) ∧ Gr w W := by
  subst hW
  obtain ⟨h1, h2, h3, g, hs⟩ := three_blocks w v0 v1 v2 v3 u0 u1 u2 u3 x0 x1 x2 x3
  have h4 := Blk4.new (((w.alloc (.cells #[v0, v1, v2, v3] 24)).alloc (.cells #[u0, u1, u2, u3] 24)).alloc (.cells #[x0, x1, x2, x3] 24)) z0 z1 z2 z3
  rw [hs] at h4
  exact ⟨Blk4.old h1.out _, Blk4.old h2.out _, Blk4.old h3.out _, h4, by go_grown⟩

theorem three_new {t u v : Tm} {w w' : World} (ht : t.In w) (hu : u.In w) (hv : v.In w)
    (hg : Gr (w.alloc (.cells #[.int .i64 t.k, .int .i64 t.n, .string t.s, .slice t.p t.l.length t.c, .int .i64 u.k, .int .i64 u.n, .string u.s, .slice u.p u.l.length u.c, .int .i64 v.k, .int .i64 v.n, .string v.s, .slice v.p v.l.length v.c] 24)) w') : Tm.Sl w' (some ⟨w.heap.size, 0, none⟩) 3 [t, u, v] := by
  have hb : w'.heap[w.heap.size]? = some (.cells #[.int .i64 t.k, .int .i64 t.n, .string t.s, .slice t.p t.l.length t.c, .int .i64 u.k, .int .i64 u.n, .string u.s, .slice u.p u.l.length u.c, .int .i64 v.k, .int .i64 v.n, .string v.s, .slice v.p v.l.length v.c] 24) :=
    (hg.block w.heap.size (by simp)).trans (heap_alloc_new w _)
  have hw : Gr w w' := below_step hg (by go_grown)
  refine ⟨Nat.le_refl _, ⟨by simp, by simp⟩, .inr ⟨w.heap.size, 0, rfl, ?_⟩, by rw [Tm.InL, Tm.InL, Tm.InL, Tm.InL]; exact ⟨Tm.In_below hw ht, Tm.In_below hw hu, Tm.In_below hw hv, trivial⟩⟩
  intro i x hx
  match i, hx with
  | 0, hx => cases hx; exact ⟨cell_of_row _ _ 0 _ _ _ hb, cell_of_row _ _ 1 _ _ _ hb, cell_of_row _ _ 2 _ _ _ hb, cell_of_row _ _ 3 _ _ _ hb⟩
  | 1, hx => cases hx; exact ⟨cell_of_row _ _ 4 _ _ _ hb, cell_of_row _ _ 5 _ _ _ hb, cell_of_row _ _ 6 _ _ _ hb, cell_of_row _ _ 7 _ _ _ hb⟩
  | 2, hx => cases hx; exact ⟨cell_of_row _ _ 8 _ _ _ hb, cell_of_row _ _ 9 _ _ _ hb, cell_of_row _ _ 10 _ _ _ hb, cell_of_row _ _ 11 _ _ _ hb⟩
  | i + 3, hx => simp at hx
theorem slIs_three {S : Nat → Prop} {x y z : Tm} {w : World} {b : Nat} (h : Tm.Sl w (some ⟨b, 0, none⟩) 3 [x, y, z]) (hx : x.On S) (hy : y.On S) (hz : z.On S) (hb : S b) : slIs S [x.erase, y.erase, z.erase] (.slice (some ⟨b, 0, none⟩) 3 3) w :=
  ⟨_, _, [x, y, z], rfl, h, by rw [Tm.eraseL, Tm.eraseL, Tm.eraseL, Tm.eraseL], .inr ⟨_, _, rfl, hb⟩, by rw [Tm.OnL, Tm.OnL, Tm.OnL, Tm.OnL]; exact ⟨hx, hy, hz, trivial⟩⟩

/-! ### A new block of zeros is no row of a term -/
def zeroBlk (n₀ : Nat) : VP := fun v w => ∃ B, v = .pointer (some ⟨B, 0, none⟩) ∧ n₀ ≤ B ∧ Blk4 w B (.int .i64 0) (.int .i64 0) (.string ⟨#[]⟩) (.slice none 0 0)
theorem zeroBlk_kp {n₀ : Nat} {C : Nat → Prop} (hC : ∀ b, n₀ ≤ b → ¬ C b) : ∀ v w w', zeroBlk n₀ v w → Kp C w w' → zeroBlk n₀ v w' :=
  fun _ _ _ ⟨B, h1, h2, h3⟩ hk => ⟨B, h1, h2, h3.kp hk (hC B h2)⟩
theorem fmd_kind {t : T} (h : t.fmd = true) : t.k ≠ 0 := by
  obtain ⟨k, n, s, l⟩ := t
  rintro h0
  have h0' : k = 0 := h0
  subst h0'
  rw [T.fmd] at h
  simp at h
mutual
theorem on_zero {w : World} {B : Nat} (hB : Blk4 w B (.int .i64 0) (.int .i64 0) (.string ⟨#[]⟩) (.slice none 0 0)) : ∀ {t : Tm}, t.In w → t.erase.fmd = true → t.On (· ≠ B)
  | .mk k n s p c l, h, hf => by
    rw [Tm.In] at h
    rw [Tm.erase] at hf
    have hfl : T.fmdL (Tm.eraseL l) = true := by
      rcases fmd_args hf with ⟨_, h1⟩ | ⟨_, h1⟩
      · exact h1
      · rw [h1, T.fmdL]
    rw [Tm.On]
    refine ⟨?_, on_zeroL hB h.2.2.2.2.2.2 hfl⟩
    rcases h.2.2.2.2.2.1 with h1 | ⟨b, o, hp, hr⟩
    · exact .inl h1
    · match l, hr, hfl with
      | [], _, _ => exact .inl rfl
      | x :: xs, hr, hfl =>
        refine .inr ⟨b, o, hp, ?_⟩
        rintro rfl
        obtain ⟨c0, _, _, c3⟩ := hr 0 x rfl
        rw [cell_of_row w b _ _ _ _ hB] at c0 c3
        have ho : o = 0 := by
          by_cases h4 : o + 0 * 4 + 3 < 4
          · omega
          · simp [show ¬ (o + 0 * 4 + 3 < 4) from h4] at c3
        subst ho
        simp at c0
        rw [Tm.eraseL, T.fmdL, Bool.and_eq_true] at hfl
        have := fmd_kind hfl.1
        obtain ⟨k', n', s', p', c', l'⟩ := x
        rw [Tm.erase] at this
        exact this c0.symm
theorem on_zeroL {w : World} {B : Nat} (hB : Blk4 w B (.int .i64 0) (.int .i64 0) (.string ⟨#[]⟩) (.slice none 0 0)) : ∀ {l : List Tm}, Tm.InL w l → T.fmdL (Tm.eraseL l) = true → Tm.OnL (· ≠ B) l
  | [], _, _ => by rw [Tm.OnL]; trivial
  | x :: xs, h, hf => by
    rw [Tm.InL] at h
    rw [Tm.eraseL, T.fmdL, Bool.and_eq_true] at hf
    rw [Tm.OnL]
    exact ⟨on_zero hB h.1 hf.1, on_zeroL hB h.2 hf.2⟩
end

/-! ### What is known by whether one operation is over, or two -/
def JG (s : Nat) (A B : World → Prop) (l : Array Bool) (w : World) : Prop := if l.getD s false = true then B w else A w
theorem getD_false {l : Array Bool} {s : Nat} (h : l.getD s true = false) : l.getD s false = false ∧ s < l.size := by
  by_cases hs : s < l.size
  · simp [hs] at h ⊢; exact h
  · simp [hs] at h
section
variable {s : Nat} {A B : World → Prop} {l : Array Bool} {w w' : World}
theorem JG.before (h : JG s A B l w) (hl : l.getD s true = false) : A w := by
  rw [JG, (getD_false hl).1] at h; simpa using h
theorem JG.after (hl : l.getD s true = false) (h : B w) : JG s A B (l.setIfInBounds s true) w := by
  have h1 := (getD_false hl).2
  rw [JG, if_pos (by simp [h1])]; exact h
theorem JG.other {k : Nat} (hk : k ≠ s) (hA : A w → A w') (hB : B w → B w') (h : JG s A B l w) : JG s A B (l.setIfInBounds k true) w' := by
  rw [JG] at h ⊢
  rw [getD_set_ne false hk]
  split
  · rename_i h1; rw [if_pos h1] at h; exact hB h
  · rename_i h1; rw [if_neg h1] at h; exact hA h
theorem JG.start {n : Nat} (h : A w) : JG s A B (Array.replicate n false) w := by
  rw [JG, if_neg]
  · exact h
  · by_cases hs : s < n <;> simp [hs]
theorem JG.done {n : Nat} (h : JG s A B (Array.replicate n true) w) (hs : s < n) : B w := by
  rw [JG, if_pos (by simp [hs])] at h; exact h
end
def JH (s r : Nat) (A B C : World → Prop) (l : Array Bool) (w : World) : Prop := (l.getD r false = true → l.getD s false = true) ∧ if l.getD r false = true then C w else if l.getD s false = true then B w else A w
section
variable {s r : Nat} {A B C : World → Prop} {l : Array Bool} {w w' : World}
theorem JH.first (h : JH s r A B C l w) (hl : l.getD s true = false) : A w := by
  have h1 := (getD_false hl).1
  have h2 : ¬ l.getD r false = true := fun e => by rw [h.1 e] at h1; cases h1
  have h3 := h.2
  rw [if_neg h2, if_neg (by rw [h1]; decide)] at h3
  exact h3
theorem JH.second (h : JH s r A B C l w) (hl : l.getD r true = false) (hs : l.getD s false = true) : B w := by
  have h3 := h.2
  rw [if_neg (by rw [(getD_false hl).1]; decide), if_pos hs] at h3
  exact h3
theorem JH.after1 (hsr : s ≠ r) (h : JH s r A B C l w) (hl : l.getD s true = false) (hB : B w') : JH s r A B C (l.setIfInBounds s true) w' := by
  have h1 := getD_false hl
  have h2 : ¬ l.getD r false = true := fun e => by rw [h.1 e] at h1; cases h1.1
  have h4 : (l.setIfInBounds s true).getD s false = true := by simp [h1.2]
  refine ⟨fun _ => h4, ?_⟩
  rw [getD_set_ne false hsr, if_neg h2, if_pos h4]
  exact hB
theorem JH.after2 (hsr : s ≠ r) (hl : l.getD r true = false) (hs : l.getD s false = true) (hC : C w') : JH s r A B C (l.setIfInBounds r true) w' := by
  have h1 := getD_false hl
  refine ⟨fun _ => by rw [getD_set_ne false hsr.symm]; exact hs, ?_⟩
  rw [if_pos (by simp [h1.2])]
  exact hC
theorem JH.other {k : Nat} (hk : k ≠ s) (hk2 : k ≠ r) (hA : A w → A w') (hB : B w → B w') (hC : C w → C w') (h : JH s r A B C l w) : JH s r A B C (l.setIfInBounds k true) w' := by
  unfold JH at h ⊢
  rw [getD_set_ne false hk, getD_set_ne false hk2]
  refine ⟨h.1, ?_⟩
  have h3 := h.2
  split
  · rename_i h1; rw [if_pos h1] at h3; exact hC h3
  · rename_i h1
    rw [if_neg h1] at h3
    split
    · rename_i h2; rw [if_pos h2] at h3; exact hB h3
    · rename_i h2; rw [if_neg h2] at h3; exact hA h3
theorem JH.start {n : Nat} (h : A w) : JH s r A B C (Array.replicate n false) w := by
  have h0 : ∀ i, (Array.replicate n false).getD i false = false := fun i => by by_cases hs : i < n <;> simp [hs]
  refine ⟨fun e => (by rw [h0] at e; cases e), ?_⟩
  rw [if_neg (by rw [h0]; decide), if_neg (by rw [h0]; decide)]
  exact h
theorem JH.done {n : Nat} (h : JH s r A B C (Array.replicate n true) w) (hr : r < n) : C w := by
  have h3 := h.2
  rw [if_pos (by simp [hr])] at h3
  exact h3
end
end Go.Proofs.Yteonakicoomjkaa

namespace Go.Proofs.Yteonakicoomjkaa
open Go.RowKit Go.Lib

set_option maxHeartbeats 8000000 in
set_option maxRecDepth 100000 in
theorem gw_var (t x y : Tm) (M : Nat) (m : Int) (w : World) (h : GIn t x y M m w) (hv : T.goal reserved t.erase x.erase y.erase m = some (compT sCallT [t.erase, x.erase, y.erase], m)) (hk1 : (t.k == 1) = true) :
    Calls Try.prog 85 #[.pointer (some ⟨M, 0, none⟩), t.val, x.val, y.val] w (RetG (T.goal reserved t.erase x.erase y.erase m) M w) := by
  rw [hv]
  generalize hQ : RetG (some (compT sCallT [t.erase, x.erase, y.erase], m)) M w = Q
  have HQ := Lib.hid hQ
  have H := Lib.hid h
  have hMl : M < w.heap.size := h.hM.lt
  have hm1 := h.hm
  clear hQ h hv
  have Htv := Lib.hid (show t.val = .agg #[.int .i64 t.k, .int .i64 t.n, .string t.s, .slice t.p t.l.length t.c] from rfl)
  have Hxv := Lib.hid (show x.val = .agg #[.int .i64 x.k, .int .i64 x.n, .string x.s, .slice x.p x.l.length x.c] from rfl)
  have Hyv := Lib.hid (show y.val = .agg #[.int .i64 y.k, .int .i64 y.n, .string y.s, .slice y.p y.l.length y.c] from rfl)
  simp only [Tm.val]
  go_enter Try.func85, Try.ntmps85
  try simp only [List.append_eq, List.cons_append, List.nil_append]
  go_upto_region 1 with fail
  obtain ⟨HT, HX, HY, HR, gA⟩ := four_blocks w (.int .i64 t.k) (.int .i64 t.n) (.string t.s) (.slice t.p t.l.length t.c) (.int .i64 x.k) (.int .i64 x.n) (.string x.s) (.slice x.p x.l.length x.c) (.int .i64 y.k) (.int .i64 y.n) (.string y.s) (.slice y.p y.l.length y.c) (.int .i64 0) (.int .i64 0) (.string ⟨#[]⟩) (.slice none 0 0) _ rfl
  generalize ((((w.alloc (.cells #[.int .i64 t.k, .int .i64 t.n, .string t.s, .slice t.p t.l.length t.c] 24)).alloc (.cells #[.int .i64 x.k, .int .i64 x.n, .string x.s, .slice x.p x.l.length x.c] 24)).alloc (.cells #[.int .i64 y.k, .int .i64 y.n, .string y.s, .slice y.p y.l.length y.c] 24)).alloc (.cells #[.int .i64 0, .int .i64 0, .string ⟨#[]⟩, .slice none 0 0] 24)) = wA at *
  have HRl := Lib.hid (show w.heap.size + 1 + 1 + 1 < wA.heap.size from HR.out.parts.2.2)
  have Hto2 := Lib.hid (Tm.On.and (on_maker H.out.hM H.out.ht) (in_ne (R := w.heap.size + 1 + 1 + 1) H.out.ht (by omega)))
  have Hxo2 := Lib.hid (Tm.On.and (on_maker H.out.hM H.out.hx) (in_ne (R := w.heap.size + 1 + 1 + 1) H.out.hx (by omega)))
  have Hyo2 := Lib.hid (Tm.On.and (on_maker H.out.hM H.out.hy) (in_ne (R := w.heap.size + 1 + 1 + 1) H.out.hy (by omega)))
  have hS2 : (∀ c, wA.heap.size ≤ c → (fun b => b ≠ M ∧ b ≠ w.heap.size + 1 + 1 + 1) c) ∧ (∀ b, (fun b => b ≠ M ∧ b ≠ w.heap.size + 1 + 1 + 1) b → b ≠ M) ∧ (∀ b, (fun b => b ≠ M ∧ b ≠ w.heap.size + 1 + 1 + 1) b → b ≠ w.heap.size + 1 + 1 + 1) ∧ (∀ b, b ≠ M → b ≠ w.heap.size + 1 + 1 + 1 → (fun b => b ≠ M ∧ b ≠ w.heap.size + 1 + 1 + 1) b) :=
    ⟨fun c hc => ⟨by have := HRl.out; omega, by have := HRl.out; omega⟩, fun _ h => h.1, fun _ h => h.2, fun _ h1 h2 => ⟨h1, h2⟩⟩
  generalize (fun b => b ≠ M ∧ b ≠ w.heap.size + 1 + 1 + 1) = S2 at Hto2 Hxo2 Hyo2 hS2
  have HS2 := Lib.hid hS2
  clear hS2
  obtain ⟨⟨t0, t1, t2, t3⟩, _, _⟩ := HT.out.parts
  obtain ⟨⟨x0, x1, x2, x3⟩, _, _⟩ := HX.out.parts
  obtain ⟨⟨y0, y1, y2, y3⟩, _, _⟩ := HY.out.parts
  go_wp2_with (first
    | (go_at_call 84
       refine (comp_ok (s := ⟨#[99, 97, 108, 108]⟩) (slIs_three (S := S2) (three_new (t := t) (u := x) (v := y) (Tm.In_below gA H.out.ht) (Tm.In_below gA H.out.hx) (Tm.In_below gA H.out.hy) (Gr.rfl' _)) Hto2.out Hxo2.out Hyo2.out (HS2.out.1 _ (Nat.le_refl _))) (by decide)).mono ?_
       rintro e w' ⟨v', rfl, ⟨⟨kb, nb, sb, pb, cb, lb⟩, rfl, hin, he, hon⟩, hg⟩
       rewrite [tm_val]
       have g2 : Gr wA w' := below_step hg (by go_grown)
       obtain ⟨⟨r0, r1, r2, r3⟩, ⟨f0, f1, f2, f3⟩, hlt⟩ := (HR.out.gr g2).parts
       have HB := Lib.hid (And.intro hin (And.intro he hon))
       clear hin he hon hg t0 t1 t2 t3 x0 x1 x2 x3 y0 y1 y2 y3)
    | fail)
  refine bodyPost_ret (v := (Tm.mk kb nb sb pb cb lb).val) (by simp (maxDischargeDepth := 9) [results, Try.results85, go_sem, tm_val, r0, r1, r2, r3]) rfl ?_
  rw [← HQ.out]
  obtain ⟨hin, he, hon⟩ := HB.out
  rw [blCall] at he
  exact ret_gm hin he hon HS2.out.2.2.1 (Kp.of_gr (gA.trans g2)) (by omega) ((H.out.hM.gr gA).gr g2) (by omega) _ _ _ _

set_option maxHeartbeats 8000000 in
set_option maxRecDepth 100000 in
theorem gw_int (t x y : Tm) (M : Nat) (m : Int) (w : World) (h : GIn t x y M m w) (hv : T.goal reserved t.erase x.erase y.erase m = none) (hk1 : (t.k == 1) = false) (hk2 : (t.k == 2) = true) :
    Calls Try.prog 85 #[.pointer (some ⟨M, 0, none⟩), t.val, x.val, y.val] w (RetG (T.goal reserved t.erase x.erase y.erase m) M w) := by
  rw [hv]
  generalize hQ : RetG (none) M w = Q
  have HQ := Lib.hid hQ
  have H := Lib.hid h
  have hMl : M < w.heap.size := h.hM.lt
  have hm1 := h.hm
  clear hQ h hv
  have Htv := Lib.hid (show t.val = .agg #[.int .i64 t.k, .int .i64 t.n, .string t.s, .slice t.p t.l.length t.c] from rfl)
  have Hxv := Lib.hid (show x.val = .agg #[.int .i64 x.k, .int .i64 x.n, .string x.s, .slice x.p x.l.length x.c] from rfl)
  have Hyv := Lib.hid (show y.val = .agg #[.int .i64 y.k, .int .i64 y.n, .string y.s, .slice y.p y.l.length y.c] from rfl)
  simp only [Tm.val]
  go_enter Try.func85, Try.ntmps85
  try simp only [List.append_eq, List.cons_append, List.nil_append]
  go_upto_region 1 with fail
  obtain ⟨HT, HX, HY, HR, gA⟩ := four_blocks w (.int .i64 t.k) (.int .i64 t.n) (.string t.s) (.slice t.p t.l.length t.c) (.int .i64 x.k) (.int .i64 x.n) (.string x.s) (.slice x.p x.l.length x.c) (.int .i64 y.k) (.int .i64 y.n) (.string y.s) (.slice y.p y.l.length y.c) (.int .i64 0) (.int .i64 0) (.string ⟨#[]⟩) (.slice none 0 0) _ rfl
  generalize ((((w.alloc (.cells #[.int .i64 t.k, .int .i64 t.n, .string t.s, .slice t.p t.l.length t.c] 24)).alloc (.cells #[.int .i64 x.k, .int .i64 x.n, .string x.s, .slice x.p x.l.length x.c] 24)).alloc (.cells #[.int .i64 y.k, .int .i64 y.n, .string y.s, .slice y.p y.l.length y.c] 24)).alloc (.cells #[.int .i64 0, .int .i64 0, .string ⟨#[]⟩, .slice none 0 0] 24)) = wA at *
  have HRl := Lib.hid (show w.heap.size + 1 + 1 + 1 < wA.heap.size from HR.out.parts.2.2)
  have Hto2 := Lib.hid (Tm.On.and (on_maker H.out.hM H.out.ht) (in_ne (R := w.heap.size + 1 + 1 + 1) H.out.ht (by omega)))
  have Hxo2 := Lib.hid (Tm.On.and (on_maker H.out.hM H.out.hx) (in_ne (R := w.heap.size + 1 + 1 + 1) H.out.hx (by omega)))
  have Hyo2 := Lib.hid (Tm.On.and (on_maker H.out.hM H.out.hy) (in_ne (R := w.heap.size + 1 + 1 + 1) H.out.hy (by omega)))
  have hS2 : (∀ c, wA.heap.size ≤ c → (fun b => b ≠ M ∧ b ≠ w.heap.size + 1 + 1 + 1) c) ∧ (∀ b, (fun b => b ≠ M ∧ b ≠ w.heap.size + 1 + 1 + 1) b → b ≠ M) ∧ (∀ b, (fun b => b ≠ M ∧ b ≠ w.heap.size + 1 + 1 + 1) b → b ≠ w.heap.size + 1 + 1 + 1) ∧ (∀ b, b ≠ M → b ≠ w.heap.size + 1 + 1 + 1 → (fun b => b ≠ M ∧ b ≠ w.heap.size + 1 + 1 + 1) b) :=
    ⟨fun c hc => ⟨by have := HRl.out; omega, by have := HRl.out; omega⟩, fun _ h => h.1, fun _ h => h.2, fun _ h1 h2 => ⟨h1, h2⟩⟩
  generalize (fun b => b ≠ M ∧ b ≠ w.heap.size + 1 + 1 + 1) = S2 at Hto2 Hxo2 Hyo2 hS2
  have HS2 := Lib.hid hS2
  clear hS2
  obtain ⟨⟨t0, t1, t2, t3⟩, _, _⟩ := HT.out.parts
  obtain ⟨⟨x0, x1, x2, x3⟩, _, _⟩ := HX.out.parts
  obtain ⟨⟨y0, y1, y2, y3⟩, _, _⟩ := HY.out.parts
  go_wp2_with (first
    | (go_at_call 87; refine (fail_calls _ _).mono ?_; rintro e w2 ⟨rfl, hb2⟩)
    | fail)
  refine ⟨rfl, ?_⟩
  rw [← HQ.out]
  exact .inr ⟨rfl, ⟨_, rfl⟩, Kp.of_gr (gA.trans hb2)⟩

end Go.Proofs.Yteonakicoomjkaa
