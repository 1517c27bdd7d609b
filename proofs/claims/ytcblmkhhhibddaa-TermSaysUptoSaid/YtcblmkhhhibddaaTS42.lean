/-
  hornref.General is the least general term.
  hornref.Find: whether the variable is there, too.
  hornref.Find: its exact answer.
  append of binds.
-/
import Derived.Test.YtcblmkhhhibddaaTS41
import Derived.Test.YtcblmkhhhibddaaTS15
import Derived.Test.YtcblmkhhhibddaaTS08
namespace Go.Proofs.Ytcblmkhhhibddaa
open Go.RowKit Go.Maps Go.Lib

/-- The pairs, each once, in the order in which they come first. -/
def oneP (E : List (T × T)) (p : T × T) : List (T × T) := if nthT E p.1 p.2 < 0 then E ++ [p] else E
def dd (E : List (T × T)) : List (T × T) → List (T × T)
  | [] => E
  | p :: ps => dd (oneP E p) ps
theorem dd_app : ∀ (L M E : List (T × T)), dd E (L ++ M) = dd (dd E L) M
  | [], _, _ => rfl
  | p :: L, M, E => dd_app L M (oneP E p)
theorem dd_snoc (L : List (T × T)) (E : List (T × T)) (p : T × T) : dd E (L ++ [p]) = oneP (dd E L) p := dd_app L [p] E
theorem oneP_old {E : List (T × T)} {p q : T × T} (h : q ∈ E) : q ∈ oneP E p := by
  rw [oneP]; split
  · exact List.mem_append_left _ h
  · exact h
theorem nth_in {E : List (T × T)} {a b : T} (h : ¬ nthT E a b < 0) : (a, b) ∈ E := by
  rw [nthT] at h
  cases hi : E.findIdx? (fun p => T.same p.1 a && T.same p.2 b) with
  | none => rw [hi] at h; exact absurd (by show (-1 : Int) < 0; omega) h
  | some i =>
    obtain ⟨hil, hp, -⟩ := List.findIdx?_eq_some_iff_getElem.1 hi
    rw [Bool.and_eq_true, same_iff, same_iff] at hp
    have : E[i] = (a, b) := Prod.ext hp.1 hp.2
    rw [← this]
    exact List.getElem_mem hil
theorem oneP_new {E : List (T × T)} {p : T × T} : p ∈ oneP E p := by
  rw [oneP]; split
  · exact List.mem_append_right _ (List.mem_singleton.2 rfl)
  · rename_i h; exact nth_in h
theorem dd_old : ∀ (L E : List (T × T)) (q : T × T), q ∈ E → q ∈ dd E L
  | [], _, _, h => h
  | _ :: L, _, q, h => dd_old L _ q (oneP_old h)
theorem dd_all : ∀ (L E : List (T × T)) (q : T × T), q ∈ L → q ∈ dd E L
  | p :: L, E, q, h => by
    rcases List.mem_cons.1 h with rfl | h
    · exact dd_old L _ _ oneP_new
    · exact dd_all L _ q h
theorem dd_src : ∀ (L E : List (T × T)) (q : T × T), q ∈ dd E L → q ∈ E ∨ q ∈ L
  | [], _, _, h => .inl h
  | p :: L, E, q, h => by
    rcases dd_src L _ q h with h | h
    · rw [oneP] at h
      split at h
      · rcases List.mem_append.1 h with h | h
        · exact .inl h
        · rw [List.mem_singleton] at h; rw [h]; exact .inr (List.mem_cons_self ..)
      · exact .inl h
    · exact .inr (List.mem_cons_of_mem _ h)
mutual
theorem unlike_pure : ∀ (a b : T), a.formed = true → b.formed = true → PureP (T.unlike a b)
  | .mk k n s l, b, fa, fb => by
    intro p hp
    rw [T.unlike] at hp
    split at hp
    · obtain ⟨k', n', s', l'⟩ := b
      exact unlikeL_pure l l' (formed_args' fa) (formed_args' fb) p hp
    · rename_i h4
      split at hp
      · cases hp
      · rename_i hs
        rw [List.mem_singleton] at hp
        subst hp
        exact ⟨h4, hs, fa, fb⟩
theorem unlikeL_pure : ∀ (l m : List T), T.formedL l = true → T.formedL m = true → PureP (T.unlikeL l m)
  | [], m, _, _ => by
    intro p hp
    rw [T.unlikeL] at hp
    · cases hp
    · intro _ _ _ _ h; cases h
  | x :: xs, [], _, _ => by
    intro p hp
    rw [T.unlikeL] at hp
    · cases hp
    · intro _ _ _ _ _ h; cases h
  | x :: xs, y :: ys, h, h' => by
    intro p hp
    rw [T.unlikeL] at hp
    rw [T.formedL, Bool.and_eq_true] at h h'
    rcases List.mem_append.1 hp with hp | hp
    · exact unlike_pure x y h.1 h'.1 p hp
    · exact unlikeL_pure xs ys h.2 h'.2 p hp
end
theorem nth_neg {E : List (T × T)} {a b : T} (ha : a.formed = true) (hb : b.formed = true) (hE : PairsOk E) : nthT E a b < 0 ↔ ¬ seekP E a b < E.length := by
  constructor
  · intro h hs
    have h1 := seek_lt ha hb hE hs
    exact absurd (List.mem_of_getElem? h1) (nth_out (by omega))
  · intro h
    refine Classical.byContradiction fun h' => h ?_
    have hm := nth_in h'
    refine Nat.lt_of_not_le fun hle => ?_
    have h0 : seekP E a b = E.length := Nat.le_antisymm List.findIdx_le_length hle
    rw [seekP, List.findIdx_eq_length] at h0
    have := h0 (a, b) hm
    rw [(twin_iff ha hb (hE _ hm)).2 rfl] at this
    cases this
mutual
theorem gen_dd : ∀ (a b : T) (E : List (T × T)), a.formed = true → b.formed = true → PairsOk E → (T.gen a b E).2 = dd E (T.unlike a b)
  | .mk k n s l, b, E, fa, fb, hE => by
    rw [T.gen, T.unlike]
    by_cases h4 : T.alike (.mk k n s l) b = true
    · rw [if_pos h4, if_pos h4]
      obtain ⟨k', n', s', l'⟩ := b
      have hl : l.length = l'.length := by
        rw [T.alike] at h4
        simp only [Bool.and_eq_true, decide_eq_true_iff] at h4
        exact h4.2.2.2
      exact genL_dd l l' E (formed_args' fa) (formed_args' fb) hl hE
    · rw [if_neg h4, if_neg h4]
      by_cases ho : k ≠ 1 ∧ T.order (.mk k n s l) b = 0
      · have hs' : k ≠ 1 ∧ T.same (.mk k n s l) b = true := ⟨ho.1, (same_iff _ _).2 ((order_zero _ _ fa fb).1 ho.2)⟩
        rw [if_pos ho, if_pos hs']
        rfl
      · have hs' : ¬ (k ≠ 1 ∧ T.same (.mk k n s l) b = true) := fun h => ho ⟨h.1, (order_zero _ _ fa fb).2 ((same_iff _ _).1 h.2)⟩
        rw [if_neg ho, if_neg hs']
        show (if seekP E (.mk k n s l) b < E.length then E else E ++ [(.mk k n s l, b)]) = oneP E (.mk k n s l, b)
        rw [oneP]
        by_cases hs : seekP E (.mk k n s l) b < E.length
        · rw [if_pos hs, if_neg (fun h => (nth_neg fa fb hE).1 h hs)]
        · rw [if_neg hs, if_pos ((nth_neg fa fb hE).2 hs)]
theorem genL_dd : ∀ (l m : List T) (E : List (T × T)), T.formedL l = true → T.formedL m = true → l.length = m.length → PairsOk E → (T.genL l m E).2 = dd E (T.unlikeL l m)
  | [], [], E, _, _, _, _ => by
    rw [T.genL, T.unlikeL] <;> try (intro _ _ _ _ h; cases h)
    rfl
  | [], _ :: _, _, _, _, h, _ => by cases h
  | _ :: _, [], _, _, _, h, _ => by cases h
  | x :: xs, y :: ys, E, fl, fm, hl, hE => by
    rw [T.formedL, Bool.and_eq_true] at fl fm
    have h1 := (gen_ok x y E fl.1 fm.1 hE).1.ok
    rw [T.genL, T.unlikeL, dd_app, ← gen_dd x y E fl.1 fm.1 hE]
    exact genL_dd xs ys _ fl.2 fm.2 (Nat.succ.inj hl) h1
end
theorem lgg_dd {a b : T} (fa : a.formed = true) (fb : b.formed = true) : T.genF (dd [] (T.unlike a b)) a b = T.lgg a b := by
  have h1 := (gen_ok a b [] fa fb (fun _ h => nomatch h)).2.stable []
  rw [List.append_nil, gen_dd a b [] fa fb (fun _ h => nomatch h)] at h1
  exact h1

set_option maxHeartbeats 4000000 in
set_option maxRecDepth 100000 in
theorem rgeneral_calls (a b : Tm) (w : World) (ia : a.In w) (ib : b.In w) (fa : a.erase.formed = true) (fb : b.erase.formed = true) (sa : T.sz a.erase ≤ 1048576) : Calls Try.prog 106 #[a.val, b.val] w (RetTm (fun _ => True) (T.lgg a.erase b.erase) w) := by
  have Ia := Lib.hid ia
  have Ib := Lib.hid ib
  have Hun := Lib.hid (fun (w' : World) (g : Gr w w') => show Calls Try.prog 156 #[.agg #[.int .i64 a.k, .int .i64 a.n, .string a.s, .slice a.p a.l.length a.c], .agg #[.int .i64 b.k, .int .i64 b.n, .string b.s, .slice b.p b.l.length b.c]] w' _ from unlike_calls (a := a) (b := b) (Tm.In_below g ia) (Tm.In_below g ib) sa)
  have Hla := Lib.hid (fun (p : Option Addr) (c : Nat) (l : List Pr) (w' : World) (g : Gr w w') (hl : (Prs.mk p c l).In w') (he : seePrs l = dd [] (T.unlike a.erase b.erase)) => show Calls Try.prog 158 #[.agg #[.int .i64 a.k, .int .i64 a.n, .string a.s, .slice a.p a.l.length a.c], .agg #[.int .i64 b.k, .int .i64 b.n, .string b.s, .slice b.p b.l.length b.c], .slice p l.length c] w' (RetTm (w'.heap.size ≤ ·) (T.lgg a.erase b.erase) w') from by
    have h1 := laid_any _ a (Nat.le_refl _) b p c l w' (Tm.In_below g ia) (Tm.In_below g ib) fa fb hl (by rw [he]; exact fun q hq => unlike_pure _ _ fa fb q ((dd_src _ _ q hq).resolve_left (fun h => nomatch h))) (by rw [he]; exact fun q hq => dd_all _ _ q hq)
    rw [he, lgg_dd fa fb] at h1
    exact h1)
  have hlen : (Tm.unlike a b).length ≤ 1048576 := Nat.le_trans (unlike_len a b) sa
  have hsee := unlike_see a b
  have hR : Hid (∀ (g : Tm) w', g.In w' → g.erase = T.lgg a.erase b.erase → Gr w w' → RetTm (fun _ => True) (T.lgg a.erase b.erase) w (.returned g.val) w') := fun g w' h1 h2 h3 => ⟨g, h1, h2, rfl, h3, Tm.On.mono (fun _ _ => trivial) h1.on⟩
  generalize RetTm (fun _ => True) (T.lgg a.erase b.erase) w = Q at hR ⊢
  generalize Tm.unlike a b = L at *
  rw [← hsee] at Hla
  clear ia ib fa fb sa hsee
  rw [show a.val = .agg #[.int .i64 a.k, .int .i64 a.n, .string a.s, .slice a.p a.l.length a.c] from rfl, show b.val = .agg #[.int .i64 b.k, .int .i64 b.n, .string b.s, .slice b.p b.l.length b.c] from rfl]
  go_enter Try.func106, Try.ntmps106
  try simp only [List.append_eq, List.cons_append, List.nil_append]
  go_upto_region 1 with fail
  obtain ⟨h3, h4, h5, gA⟩ := three_blocks w (.int .i64 a.k) (.int .i64 a.n) (.string a.s) (.slice a.p a.l.length a.c) (.int .i64 b.k) (.int .i64 b.n) (.string b.s) (.slice b.p b.l.length b.c) (.int .i64 0) (.int .i64 0) (.string ⟨#[]⟩) (.slice none 0 0)
  generalize (((w.alloc (.cells #[.int .i64 a.k, .int .i64 a.n, .string a.s, .slice a.p a.l.length a.c] 25)).alloc (.cells #[.int .i64 b.k, .int .i64 b.n, .string b.s, .slice b.p b.l.length b.c] 25)).alloc (.cells #[.int .i64 0, .int .i64 0, .string ⟨#[]⟩, .slice none 0 0] 25)) = wA at *
  obtain ⟨⟨x0, x1, x2, x3⟩, _, _⟩ := h3.out.parts
  obtain ⟨⟨y0, y1, y2, y3⟩, _, _⟩ := h4.out.parts
  have Hu := Lib.hid (Hun.out wA gA)
  go_wp2_with fail
  refine Hu.out.mono ?_
  rintro e w1 ⟨p1, cL, rfl, hL, g1⟩
  have HL := Lib.hid hL
  have hlc := hL.1
  have hlb := hL.2.1
  simp only at hlc hlb
  have gw1 : Gr w w1 := gA.trans g1
  clear x0 x1 x2 x3 y0 y1 y2 y3 Hu Hun hL
  go_wp2_with fail
  go_loopg [5, 7] L.length (fun m v0 i wr => ∃ (k : Nat) (v : Value) (D : List Pr), v = v0 ∧ k ≤ L.length ∧ m = L.length - k ∧ i = .int .i64 k ∧ Hid (BuiltPrs wr w1.heap.size v D ∧ D.length ≤ k ∧ seePrs D = dd [] (seePrs (L.take k)) ∧ ∀ y ∈ D, y.a.In w1 ∧ y.b.In w1) ∧ Gr w1 wr)
  case atStart => exact ⟨0, _, [], rfl, Nat.zero_le _, rfl, rfl, ⟨World.ownsRow_nil _ _ _ 8, Nat.le_refl _, rfl, (fun y hy => nomatch hy)⟩, Gr.rfl' _⟩
  case round =>
    obtain ⟨k, v, D, rfl, hk, rfl, rfl, hD, gr⟩ := hrel
    have gwr : Gr w wr := gw1.trans gr
    obtain ⟨hro, hDl, hDs, hDi⟩ := hD.out
    obtain ⟨pD, cD, rfl, hprs⟩ := hro.prs (by omega) (fun z hz => ⟨Tm.In_below gr (hDi z hz).1, Tm.In_below gr (hDi z hz).2⟩)
    by_cases hlt : k < L.length
    · obtain ⟨b0, o0, rfl⟩ := HL.out.ptr (by omega)
      obtain ⟨⟨⟨c0, c1, c2, c3⟩, ⟨d0, d1, d2, d3⟩⟩, ⟨hia, hib⟩, hbl⟩ := (HL.out.mono gr).elem k hlt
      have Hiw := Lib.hid (HL.out.elem k hlt).2.1
      have hstep : seePrs (L.take (k + 1)) = seePrs (L.take k) ++ [(L[k].a.erase, L[k].b.erase)] := by
        rw [List.take_add_one, List.getElem?_eq_getElem hlt]
        show seePrs (L.take k ++ [L[k]]) = _
        rw [seePrs, List.map_append]
        rfl
      have Hnth := Lib.hid (fun (w' : World) (g : Gr wr w') => show Calls Try.prog 157 #[.slice pD D.length cD, L[k].a.val, L[k].b.val] w' _ from nth_calls pD cD D L[k].a L[k].b w' (hprs.mono g) (Tm.In_below g hia) (Tm.In_below g hib))
      have hdd : dd [] (seePrs (L.take (k + 1))) = oneP (seePrs D) (L[k].a.erase, L[k].b.erase) := by rw [hstep, dd_snoc, hDs]
      have hrg := nth_range (seePrs D) L[k].a.erase L[k].b.erase
      have Hdd := Lib.hid hdd
      have Hia := Lib.hid hia
      have Hib := Lib.hid hib
      have HDi := Lib.hid hDi
      have Hro := Lib.hid hro
      clear hstep hdd hprs hia hib hDs hDi hro hD
      generalize L[k] = y at *
      rw [show y.a.val = .agg #[.int .i64 y.a.k, .int .i64 y.a.n, .string y.a.s, .slice y.a.p y.a.l.length y.a.c] from rfl, show y.b.val = .agg #[.int .i64 y.b.k, .int .i64 y.b.n, .string y.b.s, .slice y.b.p y.b.l.length y.b.c] from rfl] at Hnth
      rw [oneP] at Hdd
      simp only at Hdd
      generalize nthT (seePrs D) y.a.erase y.b.erase = N at *
      go_upto_region 6 with fail
      refine wp_region_rely [fx (.slice pD D.length cD), fx (.slice (some ⟨b0, o0, none⟩) L.length cL), fx (.int .i64 k), fx (.pointer (some ⟨b0, o0 + k * 8, none⟩)), fx (.pointer (some ⟨b0, o0 + k * 8, none⟩)), fx (.agg #[.int .i64 y.a.k, .int .i64 y.a.n, .string y.a.s, .slice y.a.p y.a.l.length y.a.c]), fx (.slice (some ⟨b0, o0, none⟩) L.length cL), fx (.int .i64 k), fx (.pointer (some ⟨b0, o0 + k * 8, none⟩)), fx (.pointer (some ⟨b0, o0 + k * 8 + 4, none⟩)), fx (.agg #[.int .i64 y.b.k, .int .i64 y.b.n, .string y.b.s, .slice y.b.p y.b.l.length y.b.c]), fx (.int .i64 N), fx (.bool (decide (N < 0)))]
        (by kernel_rfl) (by kernel_rfl) (by repeat (first | exact Stable.nil | refine Stable.fix ?_)) ?_ ?_
      · refine ⟨?_, ?_, ?_, ?_, ?_, ?_, ?_, ?_, ?_, ?_, ?_, ?a11, ?_, trivial⟩
        case a11 =>
          intro fr wz hg hold
          have h5' : fr.tmps[5]?.getD undef = .slice pD D.length cD := hold 5 rfl
          have h6' : fr.tmps[6]?.getD undef = .slice (some ⟨b0, o0, none⟩) L.length cL := hold 6 rfl
          have h7' : fr.tmps[7]?.getD undef = .int .i64 k := hold 7 rfl
          have zc0 := Gr.at hg c0
          have zc1 := Gr.at hg c1
          have zc2 := Gr.at hg c2
          have zc3 := Gr.at hg c3
          have zd0 := Gr.at hg d0
          have zd1 := Gr.at hg d1
          have zd2 := Gr.at hg d2
          have zd3 := Gr.at hg d3
          have Hg := Lib.hid hg
          clear hold c0 c1 c2 c3 d0 d1 d2 d3
          have Hcc := Lib.hid (Hnth.out wz Hg.out)
          simp [predsImp, Region.binds, dstAt, fx]
          intros
          rename_i K hK
          go_simp
          refine Hcc.out.mono ?_
          rintro e w9 ⟨rfl, g9⟩
          exact hK _ _ rfl g9
        all_goals
          intro fr wz hg hold
          have h5' : fr.tmps[5]?.getD undef = .slice pD D.length cD := hold 5 rfl
          have h6' : fr.tmps[6]?.getD undef = .slice (some ⟨b0, o0, none⟩) L.length cL := hold 6 rfl
          have h7' : fr.tmps[7]?.getD undef = .int .i64 k := hold 7 rfl
          have zc0 := Gr.at hg c0
          have zc1 := Gr.at hg c1
          have zc2 := Gr.at hg c2
          have zc3 := Gr.at hg c3
          have zd0 := Gr.at hg d0
          have zd1 := Gr.at hg d1
          have zd2 := Gr.at hg d2
          have zd3 := Gr.at hg d3
          have Hg := Lib.hid hg
          clear hold c0 c1 c2 c3 d0 d1 d2 d3
          simp [predsImp, Region.binds, dstAt, fx]
          intros
          first
            | (rw [if_pos (by simp [*])]
               intro K hK)
            | (rename_i K hK)
          go_simp
        all_goals exact hK _ _ rfl (Gr.rfl' _)
      · intro w9 hg
        rintro _ rfl _ rfl _ rfl _ rfl _ rfl _ rfl _ rfl _ rfl _ rfl _ rfl _ rfl _ rfl _ rfl
        simp only [finAll, Act.put, List.setIfInBounds_toArray, List.set_cons_succ, List.set_cons_zero]
        have z0 := Gr.at hg c0
        have z1 := Gr.at hg c1
        have z2 := Gr.at hg c2
        have z3 := Gr.at hg c3
        have t0 := Gr.at hg d0
        have t1 := Gr.at hg d1
        have t2 := Gr.at hg d2
        have t3 := Gr.at hg d3
        have g19 : Gr w1 w9 := gr.trans hg
        clear c0 c1 c2 c3 d0 d1 d2 d3
        by_cases hN : N < 0
        · have hN' : decide (N < 0) = true := by simp [hN]
          rw [if_pos hN] at Hdd
          go_wp2_with (first
            | (refine wpList_append_pr rfl _ _ rfl rfl w1.heap.size _ D y w9.heap.size 1 (by rfl) (by rfl) (Hro.out.gr (hg.trans (by go_grown))) (by have := g19.size; simp; omega) (by omega) (BlkT.new w9 _ _) ?_
               intro v' w6 r1 r2 r3)
            | fail)
          have g6 : Gr w1 w6 := Below.trans g19 (Below.trans (Below.mono (show Gr w9 _ by go_grown) g19.size) (grownBy_below r2 (by have := g19.size; simp; omega) fun b hb => Hro.out.ge hb))
          go_roundg (L.length - (k + 1))
          case measure => omega
          case rel =>
            have hall : ∀ z ∈ D ++ [y], z.a.In w1 ∧ z.b.In w1 := fun z hz => by
              rcases List.mem_append.1 hz with hz | hz
              · exact HDi.out z hz
              · rw [List.mem_singleton] at hz
                rw [hz]; exact Hiw.out
            exact ⟨k + 1, v', D ++ [y], rfl, by omega, rfl, by go_num, ⟨r1, by rw [List.length_append]; simp; omega, by rw [seePrs, List.map_append, Hdd.out]; rfl, hall⟩, g6⟩
        · have hN' : decide (N < 0) = false := by simp [hN]
          rw [if_neg hN] at Hdd
          clear z0 z1 z2 z3 t0 t1 t2 t3
          go_wp2_with fail
          go_roundg (L.length - (k + 1))
          case measure => omega
          case rel => exact ⟨k + 1, _, D, rfl, by omega, rfl, by go_num, ⟨Hro.out.gr hg, by omega, Hdd.out.symm, HDi.out⟩, g19⟩
    · obtain rfl : k = L.length := by omega
      rw [List.take_length] at hDs
      obtain ⟨⟨x0, x1, x2, x3⟩, _, _⟩ := (h3.out.gr (g1.trans gr)).parts
      obtain ⟨⟨y0, y1, y2, y3⟩, _, _⟩ := (h4.out.gr (g1.trans gr)).parts
      have B5 := Lib.hid (h5.out.gr (g1.trans gr))
      have Hl := Lib.hid (Hla.out pD cD D wr gwr hprs hDs)
      have hsr : wA.heap.size ≤ wr.heap.size := (g1.trans gr).size
      have hsA := h5.out.parts.2.2
      clear hDs hprs hDi hro hD Hla
      go_wp2_with fail
      refine Hl.out.mono ?_
      rintro e w5 ⟨g, gin, ge, rfl, g5, gon⟩
      rw [show g.val = .agg #[.int .i64 g.k, .int .i64 g.n, .string g.s, .slice g.p g.l.length g.c] from rfl]
      obtain ⟨⟨z0, z1, z2, z3⟩, ⟨r0, r1, r2, r3⟩, _⟩ := (B5.out.gr g5).parts
      have gw5 : Gr w w5 := gwr.trans g5
      have kk := Kp.sets (C := (· = w.heap.size + 2)) (w := w5) (b := w.heap.size + 2) rfl (.int .i64 g.k) (.int .i64 g.n) (.string g.s) (.slice g.p g.l.length g.c)
      have Hb := Lib.hid (hR.out g _ (kp_in gin gon (fun b hb e => by have hb' : wr.heap.size ≤ b := hb; omega) kk) ge (Below.trans gw5 (kk.below (B := w.heap.size) (fun b hb => by omega) gw5.size)))
      clear kk gin gon ge x0 x1 x2 x3 y0 y1 y2 y3
      go_wp2_with fail
      exact bodyPost_ret (v := g.val) (by simp (maxDischargeDepth := 9) [results, Try.results106, go_sem, Tm.val, z0, z1, z2, z3]) rfl Hb.out
end Go.Proofs.Ytcblmkhhhibddaa

namespace Go.Proofs.Ytcblmkhhhibddaa
open Go.RowKit

theorem hasV_drop (l : List Bd) (n : Int) (k : Nat) (hk : k < l.length) (h : l[k].v ≠ n) : hasV (l.drop k) n = hasV (l.drop (k + 1)) n := by
  rw [List.drop_eq_getElem_cons hk, hasV, hasV, List.any_cons, decide_eq_false h, Bool.false_or]
theorem hasV_here (l : List Bd) (n : Int) (k : Nat) (hk : k < l.length) (h : l[k].v = n) : hasV (l.drop k) n = true := by
  rw [List.drop_eq_getElem_cons hk, hasV, List.any_cons, decide_eq_true h, Bool.true_or]
end Go.Proofs.Ytcblmkhhhibddaa

namespace Go.Proofs.Ytcblmkhhhibddaa
open Go.RowKit

/-- What Find hands back. -/
def findTm : List Bd → Int → Tm
  | [], n => varTm n
  | y :: ys, n => if y.v = n then y.t else findTm ys n
theorem findTm_drop (l : List Bd) (n : Int) (k : Nat) (hk : k < l.length) (h : l[k].v ≠ n) : findTm (l.drop k) n = findTm (l.drop (k + 1)) n := by
  rw [List.drop_eq_getElem_cons hk, findTm, if_neg h]
theorem findTm_here (l : List Bd) (n : Int) (k : Nat) (hk : k < l.length) (h : l[k].v = n) : findTm (l.drop k) n = l[k].t := by
  rw [List.drop_eq_getElem_cons hk, findTm, if_pos h]
def RetFindX (l : List Bd) (n : Int) (w : World) (e : Ending) (w' : World) : Prop := e = .returned (.tuple #[(findTm l n).val, .bool (hasV l n)]) ∧ Gr w w'

set_option maxHeartbeats 2000000 in
set_option maxRecDepth 100000 in
theorem rfindX_calls (p : Option Addr) (c : Nat) (l : List Bd) (n : Int) (w : World) (hx : (Bds.mk p c l).In w) (hn : In64 n) :
    Calls Try.prog 176 #[.slice p l.length c, .int .i64 n] w (RetFindX l n w) := by
  have HX := Lib.hid hx
  have Hn := Lib.hid hn
  obtain ⟨hlc, ⟨hl64, hc⟩, _, _⟩ := hx
  simp only at hlc hl64 hc
  obtain ⟨hn1, hn2⟩ := hn
  rw [show RetFindX l n w = fun e w' => e = .returned (.tuple #[(findTm l n).val, .bool (hasV l n)]) ∧ Gr w w' from rfl]
  generalize hr : findTm l n = r
  generalize hq : hasV l n = q
  have Hq := Lib.hid hq
  clear hq
  have Hr := Lib.hid hr
  clear hr
  go_enter Try.func176, Try.ntmps176
  go_wp2_with fail
  go_loop [6] (fun i => ∃ k : Nat, k ≤ l.length ∧ i = .int .i64 k ∧ Hid (findTm (l.drop k) n = r) ∧ Hid (hasV (l.drop k) n = q)) (fun i => l.length - (intOf i).toNat)
  case atStart => exact ⟨0, Nat.zero_le _, rfl, Hr.out, Hq.out⟩
  case round =>
    obtain ⟨k, hk, rfl, hpre, hpq⟩ := hrel
    by_cases hlt : k < l.length
    · obtain ⟨b, o, rfl⟩ := HX.out.ptr (by omega)
      obtain ⟨⟨c0, c1, c2, c3, c4⟩, hti, ⟨hv1, hv2⟩, hbl⟩ := HX.out.elem k hlt
      have Hti := Lib.hid hti
      by_cases hv : l[k].v = n
      · have Hh2 : Hid (true = q) := (hasV_here l n k hlt hv).symm.trans hpq.out
        have Hh : Hid (l[k].t = r) := (findTm_here l n k hlt hv).symm.trans hpre.out
        clear hti
        generalize hye : l[k] = y at *
        obtain ⟨yv, yt⟩ := y
        simp only at *
        have hvb : (yv == n) = true := by simp [hv]
        clear hv
        go_wp2_with fail
        refine bodyPost_ret (v := .tuple #[yt.val, .bool true]) (by simp (maxDischargeDepth := 9) [results, Try.results176, go_sem, Tm.val]) rfl ⟨by rw [← Hh2.out, ← Hh.out], by go_grown⟩
      · have Hh2 : Hid (hasV (l.drop (k + 1)) n = q) := (hasV_drop l n k hlt hv).symm.trans hpq.out
        have Hh : Hid (findTm (l.drop (k + 1)) n = r) := (findTm_drop l n k hlt hv).symm.trans hpre.out
        have hvb : (l[k].v == n) = false := beq_eq_false_iff_ne.2 hv
        clear hti hv
        generalize hye : l[k] = y at *
        go_wp2_with fail
        go_round
        case rel => exact ⟨k + 1, by omega, by go_num, Hh.out, Hh2.out⟩
        case measure => simp [intOf]; omega
    · obtain rfl : k = l.length := by omega
      have Hh2 : Hid (false = q) := by
        show _ = _
        rw [← hpq.out, List.drop_length]; rfl
      have Hh : Hid (varTm n = r) := by
        show _ = _
        rw [← hpre.out, List.drop_length, findTm]
      go_wp2_with fail
      refine (rV_calls n _ Hn.out).mono ?_
      rintro e w1 ⟨rfl, hb1⟩
      obtain ⟨⟨y0, y1, y2, y3⟩, ⟨f0, f1, f2, f3⟩, hlt1⟩ := (Blk4.gr (Blk4.new _ _ _ _ _) hb1).parts
      have g1 : Gr w w1 := below_step hb1 (by go_grown)
      clear hb1
      go_wp2_with fail
      refine bodyPost_ret (v := .tuple #[(varTm n).val, .bool false]) (by simp (maxDischargeDepth := 9) [results, Try.results176, go_sem, varTm, Tm.val, Tm.k, Tm.n, Tm.s, Tm.p, Tm.c, Tm.l, y0, y1, y2, y3]) rfl ⟨by rw [← Hh2.out, ← Hh.out], by go_grown⟩

end Go.Proofs.Ytcblmkhhhibddaa

namespace Go.Proofs.Ytcblmkhhhibddaa
open Go.RowKit Go.Maps Go.Lib

theorem append_bds (w : World) (B : Nat) (v : Value) (l : List Bd) (p : Option Addr) (c : Nat) (s : List Bd) (hs : (Bds.mk p c s).In w) (h : BuiltBds w B v l) (hB : B ≤ w.heap.size) (hl : (l.length + s.length) * 64 ≤ 140737488351232) :
    ∃ v' w', (Builtin.append_ #[44, 44] 44 #[v, .slice p s.length c]).run Try.prog w = .ok v' w' ∧ BuiltBds w' B v' (l ++ s) ∧ w.grownBy w' v.ownBlock ∧ (v'.ownBlock = v.ownBlock ∨ v'.ownBlock = some w.heap.size) := by
  obtain ⟨i0, hi, hz0, hz1, hz2⟩ := info_parts infoBd
  by_cases h0 : s = []
  · subst h0
    rcases h.2 with ⟨rfl, h1⟩ | ⟨g, cap, cur, rfl, hg0, hg, hnc, hr⟩
    · refine ⟨_, w, run_append_empty w _ _ _ i0 Try.underlying44 hi none 0 0 p c (Nat.le_refl _), by simpa using h, ⟨rfl, rfl, rfl, Nat.le_refl _, fun _ _ _ => rfl⟩, .inl rfl⟩
    · refine ⟨_, w, run_append_empty w _ _ _ i0 Try.underlying44 hi _ l.length cap p c hnc, by simpa using h, ⟨rfl, rfl, rfl, Nat.le_refl _, fun _ _ _ => rfl⟩, .inl rfl⟩
  · have hpos : 0 < s.length := List.length_pos_iff.2 h0
    obtain ⟨b, o, rfl⟩ := hs.ptr hpos
    obtain ⟨v', w', hr, h2, h3, h4⟩ := run_append_own_fresh (P := Try.prog) w B 44 44 117 i0 _ 5 64 Try.underlying44 hi hz0 hz1 hz2 rfl (by decide) v l.length (l.flatMap Bd.cells) h
      ⟨b, o, none⟩ s.length c (s.flatMap Bd.cells) (bdcells_len s) (by
        intro j u hu
        rw [Go.WideShapes.add_plain]
        have hj : j < s.length * 5 := by have := (List.getElem?_eq_some_iff.1 hu).1; rwa [bdcells_len] at this
        have hi' : j / 5 < s.length := by omega
        obtain ⟨⟨c0, c1, c2, c3, c4⟩, _⟩ := hs.elem (j / 5) hi'
        have h5 := bdcells_at (List.getElem?_eq_getElem hi') (j % 5) (by omega)
        rw [show j / 5 * 5 + j % 5 = j by omega, hu] at h5
        rw [show o + j = o + j / 5 * 5 + j % 5 by omega]
        have hm : j % 5 < 5 := by omega
        match hj5 : j % 5, hm with
        | 0, _ => rw [hj5] at h5; rw [h5]; exact c0
        | 1, _ => rw [hj5] at h5; rw [h5]; exact c1
        | 2, _ => rw [hj5] at h5; rw [h5]; exact c2
        | 3, _ => rw [hj5] at h5; rw [h5]; exact c3
        | 4, _ => rw [hj5] at h5; rw [h5]; exact c4) (by
        intro u hu
        obtain ⟨y, hy, hu⟩ := List.mem_flatMap.1 hu
        simp only [Bd.cells, Tm.cells, List.mem_cons, List.mem_nil_iff, or_false] at hu
        rcases hu with rfl | rfl | rfl | rfl | rfl <;> rfl) (by simp only [maxLen]; omega) (by omega) hB (by omega)
    refine ⟨v', w', hr, ?_, h3, h4⟩
    show w'.ownsRow B _ 5 v' _ _
    rw [List.length_append, List.flatMap_append]
    exact h2
end Go.Proofs.Ytcblmkhhhibddaa
