/-
  (*base.Base).Look in general.
  Substitutions, plain: maps of maps, variables that occur, sizes, what goes through what.
  Robinson's road, plain: what it answers, and that this is the general unifier.
-/
import Derived.Test.YtjdoflfdlhpbmaaGreatBF17
import Derived.Test.YtjdoflfdlhpbmaaGreatBF04
import Derived.Test.YtjdoflfdlhpbmaaGreatBF06
import Derived.Test.YtjdoflfdlhpbmaaGreatBF10
namespace Go.Proofs.YtjdoflfdlhpbmaaGreat
open Go.RowKit Go.Maps Go.Lib

theorem intsl_own {w : World} {B : Nat} {v : Value} {V : List Int} (h : w.ownsRow B 3 1 v V.length (V.map (.int .i64))) (hV : ∀ n ∈ V, In64 n) : ∃ q c, v = .slice q V.length c ∧ IntSl w q c V := by
  rcases h.2 with ⟨rfl, h1⟩ | ⟨g, cap, cur, rfl, hbg, hg, hnc, hcm, hcs, htake⟩
  · have hn : V = [] := List.eq_nil_of_length_eq_zero h1
    subst hn
    exact ⟨none, 0, rfl, Nat.le_refl _, by omega, hV, .inl rfl⟩
  · simp only [maxLen] at hcm
    refine ⟨some ⟨g, 0, none⟩, cap, rfl, hnc, by omega, hV, .inr ⟨g, 0, rfl, (Array.getElem?_eq_some_iff.1 hg).1, fun i n hn => ?_⟩⟩
    have hi : i < V.length := (List.getElem?_eq_some_iff.1 hn).1
    rw [Nat.zero_add, World.ownsRow.cellAt h i (by omega), List.getElem?_map, hn]
    rfl
/-- The numbers of those that are let through. -/
def lookT (g : T) (E : List HdT) : List Int := (E.filter fun y => letsT g y.h).map (·.i)
theorem lookT_next (g : T) (E : List HdT) : lookT g E = match nextT g E with
    | none => []
    | some (x, r) => x.i :: lookT g r := by
  rw [lookT, nextT_filter]
  cases nextT g E with
  | none => rfl
  | some x => rfl
/-- What Look hands back. -/
def RetLookP (V : List Int) (w : World) (e : Ending) (w' : World) : Prop := ∃ v B0, e = .returned (.tuple #[v, .int .i64 0]) ∧ w'.ownsRow B0 3 1 v V.length (V.map (.int .i64)) ∧ Gr w w'

set_option maxHeartbeats 8000000 in
set_option maxRecDepth 100000 in
theorem lookP_calls (S : Nat → Prop) (B M1 M2 : Nat) (va : Value) (st : BSt) (G : Tm) (w : World) (hB : BaseG S w B M1 M2 va st) (hSw : ∀ x, S x → x < w.heap.size) (hG : G.In w) (fG : G.erase.formed = true) (cG : G.erase.callable = true) (hlast : st.last ≤ 8388608) :
    Calls Tryz.prog 9 #[.pointer (some ⟨B, 0, none⟩), G.val] w (RetLookP (lookT G.erase ((st.pr (keyT G.erase)).getD [])) w) := by
  have hR : Hid (∀ v B0 w', w'.ownsRow B0 3 1 v (lookT G.erase ((st.pr (keyT G.erase)).getD [])).length ((lookT G.erase ((st.pr (keyT G.erase)).getD [])).map (.int .i64)) → Gr w w' → RetLookP (lookT G.erase ((st.pr (keyT G.erase)).getD [])) w (.returned (.tuple #[v, .int .i64 0])) w') := fun v B0 w' h1 h2 => ⟨v, B0, rfl, h1, h2⟩
  have hbd : ((st.pr (keyT G.erase)).getD []).length ≤ 8388608 := by
    cases hp : st.pr (keyT G.erase) with
    | none => simp
    | some L => have := hB.bdp _ L hp; simp only [Option.getD_some]; omega
  have heO : eOk G.erase ((st.pr (keyT G.erase)).getD []) := by
    refine hds_eOk fun x hx => ?_
    cases hp : st.pr (keyT G.erase) with
    | none => rw [hp] at hx; cases hx
    | some L =>
      rw [hp] at hx
      have := hB.hds _ L hp x hx
      rw [keyT_tm] at this
      exact this
  obtain ⟨f, hm1, hrow⟩ := hB.m1
  obtain ⟨p, c, L, hf, hL, hLe⟩ : ∃ (p : Option Addr) (c : Nat) (L : List Hd), (f (G.s, (G.l.length : Int))).getD (.slice none 0 0) = .slice p L.length c ∧ HSl S w p c L ∧ L.map Hd.er = (st.pr (keyT G.erase)).getD [] := by
    have hr := hrow (G.s, (G.l.length : Int))
    rw [keyT_tm]
    cases hp : st.pr (G.s, (G.l.length : Int)) with
    | none =>
      rw [hp] at hr
      rw [show f (G.s, (G.l.length : Int)) = none from hr]
      exact ⟨none, 0, [], rfl, ⟨Nat.le_refl _, by simp, by omega, .inl rfl, fun x hx => by cases hx⟩, rfl⟩
    | some LT =>
      rw [hp] at hr
      obtain ⟨p, c, M, h1, h2, h3⟩ := hr
      rw [h1]
      exact ⟨p, c, M, rfl, h2, h3⟩
  generalize (st.pr (keyT G.erase)).getD [] = E at *
  generalize RetLookP (lookT G.erase E) w = Q at hR ⊢
  have hview := Lib.hid (fun W (hg : Gr w W) => view_gen S B M1 _ _ _ f G p c L W (hB.blk.gr hg) (hm1.gr hg) hf (hL.gr hg) (Tm.In_below hg hG) fG cG)
  have HE := Lib.hid heO
  have HLe := Lib.hid hLe
  have HSw := Lib.hid hSw
  have Hbd := Lib.hid hbd
  clear hB hm1 hrow hf hL hG fG cG heO hSw hbd
  have Hgv := Lib.hid (show G.val = .agg #[.int .i64 G.k, .int .i64 G.n, .string G.s, .slice G.p G.l.length G.c] from rfl)
  rw [Hgv.out]
  go_enter Tryz.func9, Tryz.ntmps9
  try simp only [List.append_eq, List.cons_append, List.nil_append]
  go_upto_region 1 with fail
  have hN := Blk4.new w (.int .i64 G.k) (.int .i64 G.n) (.string G.s) (.slice G.p G.l.length G.c)
  have gA : Gr w (w.alloc (.cells #[.int .i64 G.k, .int .i64 G.n, .string G.s, .slice G.p G.l.length G.c] 24)) := by go_grown
  generalize w.alloc (.cells #[.int .i64 G.k, .int .i64 G.n, .string G.s, .slice G.p G.l.length G.c] 24) = wA at *
  obtain ⟨⟨t0, t1, t2, t3⟩, _, _⟩ := hN.parts
  go_upto_region 2 with (first
    | (go_at_call 30; rewrite [← Hgv.out]; refine (hview.out _ gA).mono ?_; rintro e wB ⟨V, p2, c2, M, G2, rfl, hv1, hv2, hv3, hv4, hv5, hv6, hv7, hb⟩; have gB := Lib.hid (gA.trans hb); have HV := Lib.hid (And.intro hv1 (And.intro hv2 (And.intro (hv3.trans HLe.out) (And.intro hv4 (And.intro hv5 (And.intro hv6 hv7)))))); have hsA := hb.size; clear hb t0 t1 t2 t3 hv1 hv2 hv3 hv4 hv5 hv6 hv7)
    | fail)
  have hVw : wA.heap.size ≤ V := HV.out.2.2.2.2.2.2
  have hVl : V < wB.heap.size := HV.out.1.lt
  have hAw := gA.size
  have hbw := gB.out.size
  -- where all that is read lies
  obtain ⟨S2, hS2, hG2, nS', lS'⟩ : ∃ S2 : Nat → Prop, Hid (HSl S2 wB p2 c2 M) ∧ Hid (G2.On S2) ∧ Hid (¬ S2 V) ∧ Hid (∀ x, S2 x → x < wB.heap.size) :=
    ⟨fun x => S x ∨ (wA.heap.size ≤ x ∧ x ≠ V ∧ x < wB.heap.size), HV.out.2.1.mono fun x h _ => .inl h, (Tm.On.and HV.out.2.2.2.2.2.1 HV.out.2.2.2.1.on).mono fun x h => .inr ⟨h.1.1, h.1.2, h.2⟩,
      fun h => h.elim (fun h => by have := HSw.out V h; omega) (fun h => h.2.1 rfl), fun x h => h.elim (fun h => by have := HSw.out x h; omega) (fun h => h.2.2)⟩
  have hML : M.length = E.length := by rw [← HV.out.2.2.1, List.length_map]
  go_wp2_with fail
  go_loopg [8] M.length (fun m u wr => ∃ (v : Value) (L1 : List Hd) (p1 : Option Addr) (c1 : Nat) (ns : List Int), v = u ∧ L1.length ≤ m ∧ Hid (BlkT wr V 110 #[.slice p1 L1.length c1, .int .i64 G2.k, .int .i64 G2.n, .string G2.s, .slice G2.p G2.l.length G2.c] ∧ HSl S2 wr p1 c1 L1 ∧ eOk G.erase (L1.map Hd.er) ∧ wr.ownsRow wB.heap.size 3 1 v ns.length (ns.map (.int .i64)) ∧ ns ++ lookT G.erase (L1.map Hd.er) = lookT G.erase E ∧ ns.length + L1.length ≤ E.length) ∧ Kp (fun x => x = V ∨ wB.heap.size ≤ x) wB wr)
  case atStart => exact ⟨_, M, p2, c2, [], rfl, Nat.le_refl _, ⟨HV.out.1, hS2.out, by rw [HV.out.2.2.1]; exact HE.out, World.ownsRow_nil _ _ _ 1, by rw [HV.out.2.2.1]; rfl, by rw [hML]; exact Nat.le_of_eq (Nat.zero_add _)⟩, Kp.refl _ _⟩
  case round =>
    obtain ⟨v, L1, p1, c1, ns, rfl, hm, hst, hkp⟩ := hrel
    have hnx := next_calls S2 V G2 L1 p1 c1 wr nS'.out (fun x h => Nat.lt_of_lt_of_le (lS'.out x h) hkp.size) hst.out.1 hst.out.2.1 (tm_kp HV.out.2.2.2.1 hG2.out (fun x h h9 => h9.elim (fun h9 => nS'.out (h9 ▸ h)) fun h9 => by have := lS'.out x h; omega) hkp) hG2.out (eOk.tm (by rw [HV.out.2.2.2.2.1]; exact hst.out.2.2.1))
    rw [HV.out.2.2.2.2.1] at hnx
    obtain ⟨r, hr⟩ : ∃ r, nextT G.erase (L1.map Hd.er) = r := ⟨_, rfl⟩
    rw [hr] at hnx
    have Hnx := Lib.hid hnx
    have Hr := Lib.hid hr
    clear hnx hr
    have hsr := hkp.size
    have hkV : Hid (∀ w', Kp (fun b => b = V) wr w' → w'.ownsRow wB.heap.size 3 1 v ns.length (ns.map (.int .i64))) := fun w' hk => ownsRow_kpv hst.out.2.2.2.1 hk (fun j hj (e : j = V) => by have := (hst.out.2.2.2.1.lt j hj).1; omega)
    cases r with
    | none =>
      go_upto_region 6 with (first
        | (go_at_call 31; refine Hnx.out.mono ?_; rintro e w2 ⟨L2, p3, c3, h1, h2, h3, h4, rfl⟩; have HK := Lib.hid h3; rewrite [clVal_four]; clear h1 h2 h3 h4)
        | fail)
      have hend : lookT G.erase E = ns := by rw [← hst.out.2.2.2.2.1, lookT_next, Hr.out, List.append_nil]
      have hg2 : Gr w w2 := Below.trans (Below.trans gB.out (hkp.below (B := w.heap.size) (fun x hx => hx.elim (fun h => by omega) fun h => by omega) hbw)) (HK.out.below (B := w.heap.size) (fun x (hx : x = V) => by omega) (by omega))
      have hsz2 := HK.out.size
      have Hend := Lib.hid (hR.out v wB.heap.size _ (by rw [hend]; exact ownsRow_gr (hkV.out w2 HK.out) (show Gr w2 (w2.alloc (.cells #[.int .i64 0, .int .i64 0, .string ⟨#[]⟩, .slice none 0 0, .int .i64 0, .int .i64 0, .string ⟨#[]⟩, .slice none 0 0] 29)) by go_grown)) (Gr.trans hg2 (by go_grown)))
      clear hend hg2
      go_wp2_with fail
      exact Hend.out
    | some xr =>
      obtain ⟨x, rest⟩ := xr
      go_upto_region 6 with (first
        | (go_at_call 31; refine Hnx.out.mono ?_; rintro e w2 ⟨L2, p3, c3, h1, h2, h3, h4, hm2, bm2, rfl, i1, i2, _, _, _, _⟩; have HK := Lib.hid h3; have HN := Lib.hid (And.intro h1 (And.intro h2 h4)); rewrite [clVal_four]; clear h1 h2 h3 h4 i1 i2)
        | fail)
      have gC : Gr w2 (w2.alloc (.cells #[.int .i64 hm2.k, .int .i64 hm2.n, .string hm2.s, .slice hm2.p hm2.l.length hm2.c, .int .i64 bm2.k, .int .i64 bm2.n, .string bm2.s, .slice bm2.p bm2.l.length bm2.c] 29)) := by go_grown
      generalize w2.alloc (.cells #[.int .i64 hm2.k, .int .i64 hm2.n, .string hm2.s, .slice hm2.p hm2.l.length hm2.c, .int .i64 bm2.k, .int .i64 bm2.n, .string bm2.s, .slice bm2.p bm2.l.length bm2.c] 29) = w3 at *
      have HO3 := Lib.hid (ownsRow_gr (hkV.out w2 HK.out) gC)
      have GC3 := Lib.hid gC
      have hsz3 : wB.heap.size ≤ w3.heap.size := by have := HK.out.size; have := gC.size; omega
      have hnl : ns.length ≤ 8388608 := by have := hst.out.2.2.2.2.2; have := Hbd.out; omega
      clear gC
      go_wp2_with (first
        | (at_builtin
           refine wpList_append_one rfl _ _ 36 3 rfl Tryz.underlying36 infoInt rfl (by decide) wB.heap.size v ns.length (ns.map (.int .i64)) _ 1 [.int .i64 x.i] (by rfl) (by rfl) (ownsRow_gr HO3.out (by go_grown)) (by simp; omega) rfl (by
             intro j u hu
             match j, hu with
             | 0, hu => cases hu; go_simp
             | j + 1, hu => simp at hu) (by
             intro u hu
             simp only [List.mem_cons, List.mem_nil_iff, or_false] at hu
             rw [hu]; rfl) (by simp only [maxLen]; omega) (by omega) ?_
           intro v' w' h2' h3 h4
           have HG6 := Lib.hid h3
           have HO6 := Lib.hid h2'
           clear h2' h3 h4)
        | fail)
      have hrl := restOf_len G.erase (L1.map Hd.er)
      rw [Hr.out] at hrl
      have hlen2 : L2.length < L1.length := by
        have h5 := hrl.2 x rest rfl
        rw [← HN.out.2.2, List.length_map, List.length_map] at h5
        exact h5
      have Hrl := Lib.hid hlen2
      go_roundg L2.length
      case measure => have := Hrl.out; omega
      case rel =>
        have hk23 : Kp (fun _ => False) w2 w3 := Kp.of_gr GC3.out
        have hk6 : Kp (fun j => v.ownBlock = some j) (w3.alloc (.cells #[.int .i64 x.i] 3)) w' := Kp.of_grown HG6.out fun r hr => hr
        have k34 : Kp (fun _ => False) w3 (w3.alloc (.cells #[.int .i64 x.i] 3)) := Kp.of_gr (by go_grown)
        have k26 : Kp (fun j => v.ownBlock = some j) w2 w' := ((hk23.mono fun _ h => h.elim).trans (k34.mono fun _ h => h.elim)).trans hk6
        have hvl := hst.out.2.2.2.1.lt
        have nV : ¬ v.ownBlock = some V := fun e => by have := (hvl V e).1; omega
        refine ⟨v', L2, p3, c3, ns ++ [x.i], rfl, Nat.le_refl _, ⟨HN.out.1.kp k26 nV, HN.out.2.1.kp k26 (fun j hj e => by have := lS'.out j hj; have := (hvl j e).1; omega), ?_, ?_, ?_, ?_⟩, ?_⟩
        · rw [HN.out.2.2]
          have h8 := hst.out.2.2.1.rest
          rw [Hr.out] at h8
          exact h8
        · rw [List.length_append, List.map_append]; exact HO6.out
        · rw [← hst.out.2.2.2.2.1, lookT_next G.erase (L1.map Hd.er), Hr.out, HN.out.2.2, List.append_assoc]; rfl
        · have := hst.out.2.2.2.2.2; have := Hrl.out; rw [List.length_append]; simp only [List.length_cons, List.length_nil]; omega
        · exact (hkp.trans (HK.out.mono fun j hj => .inl hj)).trans ((k26.mono fun j hj => .inr (hvl j hj).1))
end Go.Proofs.YtjdoflfdlhpbmaaGreat

namespace Go.Proofs.YtjdoflfdlhpbmaaGreat

mutual
theorem T.map_map (f g : Int → T) : ∀ t : T, T.map g (T.map f t) = T.map (fun n => T.map g (f n)) t
  | .mk k n s l => by
    rw [T.map, T.map]
    by_cases h1 : k = 1
    · rw [if_pos h1, if_pos h1]
    · rw [if_neg h1, if_neg h1]
      by_cases h4 : k = 4
      · rw [if_pos h4, if_pos h4, T.map, if_neg h1, if_pos h4, T.mapL_mapL f g l]
      · rw [if_neg h4, if_neg h4, T.map, if_neg h1, if_neg h4]
theorem T.mapL_mapL (f g : Int → T) : ∀ l : List T, T.mapL g (T.mapL f l) = T.mapL (fun n => T.map g (f n)) l
  | [] => by rw [T.mapL, T.mapL, T.mapL]
  | x :: xs => by rw [T.mapL, T.mapL, T.mapL, T.map_map f g x, T.mapL_mapL f g xs]
end

mutual
/-- The variable occurs in the term. -/
def T.occ (n : Int) : T → Prop
  | .mk k m _ l => if k = 1 then m = n else if k = 4 then T.occL n l else False
def T.occL (n : Int) : List T → Prop
  | [] => False
  | x :: xs => T.occ n x ∨ T.occL n xs
end
mutual
theorem T.map_congr {f g : Int → T} : ∀ t : T, (∀ n, T.occ n t → f n = g n) → T.map f t = T.map g t
  | .mk k n s l, h => by
    rw [T.map, T.map]
    by_cases h1 : k = 1
    · rw [if_pos h1, if_pos h1]
      exact h n (by rw [T.occ, if_pos h1])
    · rw [if_neg h1, if_neg h1]
      by_cases h4 : k = 4
      · rw [if_pos h4, if_pos h4, T.mapL_congr l fun m hm => h m (by rw [T.occ, if_neg h1, if_pos h4]; exact hm)]
      · rw [if_neg h4, if_neg h4]
theorem T.mapL_congr {f g : Int → T} : ∀ l : List T, (∀ n, T.occL n l → f n = g n) → T.mapL f l = T.mapL g l
  | [], _ => by rw [T.mapL, T.mapL]
  | x :: xs, h => by
    rw [T.mapL, T.mapL, T.map_congr x fun n hn => h n (by rw [T.occL]; exact .inl hn), T.mapL_congr xs fun n hn => h n (by rw [T.occL]; exact .inr hn)]
end
mutual
theorem T.occ_map {f : Int → T} {m : Int} : ∀ t : T, T.occ m (T.map f t) ↔ ∃ n, T.occ n t ∧ T.occ m (f n)
  | .mk k n s l => by
    rw [T.map]
    by_cases h1 : k = 1
    · rw [if_pos h1]
      constructor
      · intro h; exact ⟨n, by rw [T.occ, if_pos h1], h⟩
      · rintro ⟨j, hj, h⟩
        rw [T.occ, if_pos h1] at hj
        rw [hj]; exact h
    · rw [if_neg h1]
      by_cases h4 : k = 4
      · rw [if_pos h4, T.occ, if_neg h1, if_pos h4, T.occL_map l]
        constructor
        · rintro ⟨j, hj, h⟩; exact ⟨j, by rw [T.occ, if_neg h1, if_pos h4]; exact hj, h⟩
        · rintro ⟨j, hj, h⟩
          rw [T.occ, if_neg h1, if_pos h4] at hj
          exact ⟨j, hj, h⟩
      · rw [if_neg h4, T.occ, if_neg h1, if_neg h4]
        constructor
        · intro h; exact h.elim
        · rintro ⟨j, hj, _⟩
          rw [T.occ, if_neg h1, if_neg h4] at hj
          exact hj
theorem T.occL_map {f : Int → T} {m : Int} : ∀ l : List T, T.occL m (T.mapL f l) ↔ ∃ n, T.occL n l ∧ T.occ m (f n)
  | [] => by
    rw [T.mapL, T.occL]
    constructor
    · intro h; exact h.elim
    · rintro ⟨j, hj, _⟩
      rw [T.occL] at hj
      exact hj
  | x :: xs => by
    rw [T.mapL, T.occL, T.occ_map x, T.occL_map xs]
    constructor
    · rintro (⟨j, hj, h⟩ | ⟨j, hj, h⟩)
      · exact ⟨j, by rw [T.occL]; exact .inl hj, h⟩
      · exact ⟨j, by rw [T.occL]; exact .inr hj, h⟩
    · rintro ⟨j, hj, h⟩
      rw [T.occL] at hj
      rcases hj with hj | hj
      · exact .inl ⟨j, hj, h⟩
      · exact .inr ⟨j, hj, h⟩
end
theorem T.occ_var {n m : Int} : T.occ m (varT n) ↔ n = m := by rw [varT, T.occ, if_pos rfl]
mutual
theorem T.occ_range {n : Int} : ∀ t : T, t.formed = true → T.occ n t → 0 ≤ n ∧ n ≤ 1099511627776
  | .mk k m s l, h, ho => by
    rw [T.occ] at ho
    by_cases h1 : k = 1
    · subst h1
      rw [if_pos rfl] at ho
      subst ho
      exact (formed_var h).1
    · rw [if_neg h1] at ho
      rcases formed_args h with ⟨h4, hl⟩ | ⟨h4, _⟩
      · rw [if_pos h4] at ho
        exact T.occL_range l hl ho
      · rw [if_neg h4] at ho; exact ho.elim
theorem T.occL_range {n : Int} : ∀ l : List T, T.formedL l = true → T.occL n l → 0 ≤ n ∧ n ≤ 1099511627776
  | [], _, ho => by rw [T.occL] at ho; exact ho.elim
  | x :: xs, h, ho => by
    rw [T.formedL, Bool.and_eq_true] at h
    rw [T.occL] at ho
    rcases ho with ho | ho
    · exact T.occ_range x h.1 ho
    · exact T.occL_range xs h.2 ho
end
mutual
/-- How many parts. -/
def T.sz : T → Nat
  | .mk _ _ _ l => T.szL l + 1
def T.szL : List T → Nat
  | [] => 0
  | x :: xs => T.sz x + T.szL xs
end
theorem T.sz_pos (t : T) : 0 < T.sz t := by cases t; rw [T.sz]; omega
mutual
theorem T.sz_occ {f : Int → T} {n : Int} : ∀ t : T, T.occ n t → T.sz (f n) ≤ T.sz (T.map f t) ∧ (t.k ≠ 1 → T.sz (f n) < T.sz (T.map f t))
  | .mk k m s l, h => by
    rw [T.occ] at h
    rw [T.map]
    by_cases h1 : k = 1
    · rw [if_pos h1] at h ⊢
      subst h
      exact ⟨Nat.le_refl _, fun hk => absurd h1 hk⟩
    · rw [if_neg h1] at h ⊢
      by_cases h4 : k = 4
      · rw [if_pos h4] at h ⊢
        have := T.szL_occ (f := f) l h
        rw [T.sz]
        exact ⟨by omega, fun _ => by omega⟩
      · rw [if_neg h4] at h; exact h.elim
theorem T.szL_occ {f : Int → T} {n : Int} : ∀ l : List T, T.occL n l → T.sz (f n) ≤ T.szL (T.mapL f l)
  | [], h => by rw [T.occL] at h; exact h.elim
  | x :: xs, h => by
    rw [T.occL] at h
    rw [T.mapL, T.szL]
    rcases h with h | h
    · have := (T.sz_occ (f := f) x h).1; omega
    · have := T.szL_occ (f := f) xs h; omega
end
theorem T.sz_elem {x : T} : ∀ {l : List T}, x ∈ l → T.sz x ≤ T.szL l
  | y :: ys, h => by
    rw [T.szL]
    rcases List.mem_cons.1 h with rfl | h
    · omega
    · have := T.sz_elem h; omega
theorem T.mapL_eq (f : Int → T) : ∀ l : List T, T.mapL f l = l.map (T.map f)
  | [] => by rw [T.mapL]; rfl
  | x :: xs => by rw [T.mapL, T.mapL_eq f xs]; rfl
theorem T.occL_iff {n : Int} : ∀ l : List T, T.occL n l ↔ ∃ x ∈ l, T.occ n x
  | [] => by rw [T.occL]; simp
  | x :: xs => by rw [T.occL, T.occL_iff xs]; simp
theorem T.map_var (f : Int → T) (n : Int) : T.map f (varT n) = f n := by rw [varT, T.map, if_pos rfl]
/-- What is formed and becomes a variable is one. -/
theorem T.map_is_var {f : Int → T} {t : T} {m : Int} (h : T.map f t = varT m) (hf : t.formed = true) : ∃ n, t = varT n ∧ f n = varT m := by
  obtain ⟨k, n, s, l⟩ := t
  rw [T.map] at h
  by_cases h1 : k = 1
  · subst h1
    rw [if_pos rfl] at h
    obtain ⟨_, rfl, rfl⟩ := formed_var hf
    exact ⟨n, rfl, h⟩
  · rw [if_neg h1] at h
    by_cases h4 : k = 4
    · rw [if_pos h4, varT] at h
      injection h with h2; exact absurd h2 h1
    · rw [if_neg h4, varT] at h
      injection h with h2; exact absurd h2 h1
theorem var_of_k {t : T} (hf : t.formed = true) (hk : t.k = 1) : t = varT t.n := by
  obtain ⟨k, n, s, l⟩ := t
  obtain rfl : k = 1 := hk
  obtain ⟨_, rfl, rfl⟩ := formed_var hf
  rfl

/-- The substitution says no more than what θ says. -/
def Through (θ σ : Int → T) : Prop := ∀ n, T.map θ (σ n) = θ n
theorem Through.map {θ σ : Int → T} (h : Through θ σ) (t : T) : T.map θ (T.map σ t) = T.map θ t := by
  rw [T.map_map]
  exact T.map_congr t fun n _ => h n
theorem through_var (θ : Int → T) : Through θ varT := fun n => T.map_var θ n

/-- One variable is replaced. -/
def oneF (x : Int) (y : T) : Int → T := fun n => if n = x then y else varT n
def stepF (σ : Int → T) (x : Int) (y : T) : Int → T := fun n => T.map (oneF x y) (σ n)
theorem stepF_map (σ : Int → T) (x : Int) (y t : T) : T.map (stepF σ x y) t = T.map (oneF x y) (T.map σ t) := (T.map_map σ (oneF x y) t).symm

/-- A solved form: formed terms of variables that are free, and of two variables the smaller one stays. -/
structure Canon (σ : Int → T) : Prop where
  form : ∀ n, σ n = varT n ∨ ((σ n).formed = true ∧ 0 ≤ n ∧ n ≤ 1099511627776)
  idem : ∀ n m, T.occ m (σ n) → σ m = varT m
  low : ∀ n m, σ n = varT m → m ≤ n

theorem canon_var : Canon varT where
  form n := .inl rfl
  idem n m h := by rfl
  low n m h := by
    rw [varT, varT] at h
    injection h with _ h1
    omega

theorem Canon.fixed {s t : Int → T} (hs : Canon s) (ht : Canon t) (h2 : Through s t) {y : Int} (hy : s y = varT y) : t y = varT y := by
  rcases ht.form y with h | ⟨hf, _⟩
  · exact h
  · obtain ⟨z, hz, hsz⟩ := T.map_is_var ((h2 y).trans hy) hf
    have h3 := ht.low y z hz
    have h4 := hs.low z y hsz
    obtain rfl : z = y := by omega
    exact hz
theorem T.map_fixed {t : Int → T} {u : T} (hf : u.formed = true) (h : ∀ m, T.occ m u → t m = varT m) : T.map t u = u := by
  rw [T.map_congr (g := varT) u h, T.map_varT hf]
/-- Two solved forms that go through one another are the same. -/
theorem Canon.uniq {s t : Int → T} (hs : Canon s) (ht : Canon t) (h1 : Through t s) (h2 : Through s t) : s = t := by
  funext x
  rcases hs.form x with h | ⟨hf, _⟩
  · rw [h, hs.fixed ht h2 h]
  · rw [← h1 x, T.map_fixed hf fun m hm => hs.fixed ht h2 (hs.idem x m hm)]
theorem Canon.map {σ : Int → T} (h : Canon σ) {t : T} (ht : t.formed = true) : (T.map σ t).formed = true :=
  formed_mapped σ (fun n h1 h2 => by
    rcases h.form n with h3 | ⟨h3, _⟩
    · rw [h3]; exact varT_formed ⟨h1, h2⟩
    · exact h3) t ht
theorem Canon.occ_free {σ : Int → T} (h : Canon σ) {t : T} {m : Int} (hm : T.occ m (T.map σ t)) : σ m = varT m := by
  obtain ⟨n, _, hn⟩ := (T.occ_map t).1 hm
  exact h.idem n m hn

theorem oneF_not {x : Int} {y t : T} (ht : t.formed = true) (h : ¬ T.occ x t) : T.map (oneF x y) t = t :=
  T.map_fixed ht fun m hm => by
    rw [oneF, if_neg]
    rintro rfl
    exact h hm
theorem oneF_form {x : Int} {y : T} (hy : y.formed = true) (n : Int) (h0 : 0 ≤ n) (h1 : n ≤ 1099511627776) : (oneF x y n).formed = true := by
  rw [oneF]
  split
  · exact hy
  · exact varT_formed ⟨h0, h1⟩
/-- One step: a free variable is bound. -/
theorem Canon.step {σ : Int → T} (h : Canon σ) {x : Int} {y : T} (hx : σ x = varT x) (hr : 0 ≤ x ∧ x ≤ 1099511627776) (hy : y.formed = true) (hyf : ∀ m, T.occ m y → σ m = varT m) (hoc : ¬ T.occ x y) (hlow : ∀ m, y = varT m → m < x) : Canon (stepF σ x y) where
  form n := by
    rcases h.form n with h1 | ⟨h1, h2⟩
    · rw [stepF, h1, T.map_var, oneF]
      split
      · rename_i e; subst e; exact .inr ⟨hy, hr⟩
      · exact .inl rfl
    · exact .inr ⟨formed_mapped _ (oneF_form hy) _ h1, h2⟩
  idem n m hm := by
    have key : ∀ j, σ j = varT j → j ≠ x → stepF σ x y j = varT j := fun j h1 h2 => by rw [stepF, h1, T.map_var, oneF, if_neg h2]
    obtain ⟨j, hj, hm2⟩ := (T.occ_map (σ n)).1 hm
    rw [oneF] at hm2
    split at hm2
    · exact key m (hyf m hm2) (fun e => hoc (by rw [← e]; exact hm2))
    · rename_i hjx
      rw [T.occ_var] at hm2
      rw [← hm2]
      exact key j (h.idem n j hj) hjx
  low n m hm := by
    have hv : ∀ j, oneF x y j = varT m → m ≤ j := fun j hj => by
      rw [oneF] at hj
      split at hj
      · rename_i e; subst e
        have := hlow m hj; omega
      · rw [varT, varT] at hj
        injection hj with _ h1
        omega
    rw [stepF] at hm
    rcases h.form n with h1 | ⟨h1, h2⟩
    · rw [h1, T.map_var] at hm
      exact hv n hm
    · obtain ⟨j, hj, hjm⟩ := T.map_is_var hm h1
      have h3 := h.low n j hj
      have h4 := hv j hjm
      omega
theorem Through.step {θ σ : Int → T} (h : Through θ σ) {x : Int} {y : T} (hxy : T.map θ y = θ x) : Through θ (stepF σ x y) := fun n => by
  rw [stepF, T.map_map]
  refine Eq.trans (T.map_congr _ fun m _ => ?_) (h n)
  rw [oneF]
  split
  · rename_i e; rw [hxy, e]
  · exact T.map_var θ m
theorem Canon.self {σ : Int → T} (h : Canon σ) : Through σ σ := fun n => by
  rcases h.form n with h1 | ⟨h1, _⟩
  · rw [h1, T.map_var]; exact h1
  · exact T.map_fixed h1 fun m hm => h.idem n m hm
theorem Through.back {σ : Int → T} {x : Int} {y : T} (h : Canon σ) : Through (stepF σ x y) σ := fun n => by
  rw [stepF_map, h.self n]
  rfl
theorem Through.trans {θ ρ σ : Int → T} (h1 : Through θ ρ) (h2 : Through ρ σ) : Through θ σ := fun n => by
  rw [← h1.map (σ n), h2 n, h1 n]

/-- The variable occurs deeper: no unifier. -/
theorem no_occ {θ : Int → T} {x : Int} {y : T} (hf : y.formed = true) (ho : T.occ x y) (hne : y ≠ varT x) : T.map θ y ≠ θ x := fun h => by
  have hk : y.k ≠ 1 := fun hk => by
    have h1 := var_of_k hf hk
    rw [h1, T.occ_var] at ho
    rw [ho] at h1
    exact hne h1
  have := (T.sz_occ (f := θ) y ho).2 hk
  rw [h] at this
  omega
end Go.Proofs.YtjdoflfdlhpbmaaGreat

namespace Go.Proofs.YtjdoflfdlhpbmaaGreat

mutual
/-- The first place at which two terms differ. -/
def T.diff : T → T → Option (T × T)
  | .mk k n s l, .mk k' n' s' l' => if k = 4 ∧ k' = 4 ∧ s = s' ∧ l.length = l'.length then T.diffL l l' else if T.same (.mk k n s l) (.mk k' n' s' l') = true then none else some (.mk k n s l, .mk k' n' s' l')
def T.diffL : List T → List T → Option (T × T)
  | x :: xs, y :: ys => match T.diff x y with
    | some p => some p
    | none => T.diffL xs ys
  | _, _ => none
end

theorem formed_comp {n : Int} {s : List UInt8} {l : List T} (h : (T.mk 4 n s l).formed = true) : n = 0 ∧ s.length ≤ 100 ∧ 1 ≤ l.length ∧ l.length ≤ 50 ∧ T.formedL l = true := by
  rw [T.formed] at h
  simp at h
  exact ⟨h.1.1.1.1, h.1.1.1.2, h.1.1.2, h.1.2, h.2⟩

mutual
theorem T.diff_none : ∀ a b : T, a.formed = true → b.formed = true → T.diff a b = none → a = b
  | .mk k n s l, .mk k' n' s' l', ha, hb, h => by
    rw [T.diff] at h
    by_cases hc : k = 4 ∧ k' = 4 ∧ s = s' ∧ l.length = l'.length
    · rw [if_pos hc] at h
      obtain ⟨rfl, rfl, rfl, hl⟩ := hc
      obtain ⟨rfl, _, _, _, h1⟩ := formed_comp ha
      obtain ⟨rfl, _, _, _, h2⟩ := formed_comp hb
      rw [T.diffL_none l l' h1 h2 hl h]
    · rw [if_neg hc] at h
      by_cases hs : T.same (.mk k n s l) (.mk k' n' s' l') = true
      · exact (same_iff _ _).1 hs
      · rw [if_neg hs] at h; cases h
theorem T.diffL_none : ∀ a b : List T, T.formedL a = true → T.formedL b = true → a.length = b.length → T.diffL a b = none → a = b
  | [], [], _, _, _, _ => rfl
  | x :: xs, y :: ys, ha, hb, hl, h => by
    rw [T.formedL, Bool.and_eq_true] at ha hb
    rw [T.diffL] at h
    cases hd : T.diff x y with
    | some p => rw [hd] at h; cases h
    | none =>
      rw [hd] at h
      rw [T.diff_none x y ha.1 hb.1 hd, T.diffL_none xs ys ha.2 hb.2 (by simpa using hl) h]
end
/-- What is found where two terms differ. -/
structure Differ (a b : T → Prop) (u : (Int → T) → Prop) (p : T × T) : Prop where
  fx : p.1.formed = true
  fy : p.2.formed = true
  ox : a p.1
  oy : b p.2
  go : ∀ θ, u θ → T.map θ p.1 = T.map θ p.2
  ne : p.1 ≠ p.2
  head : ¬ (p.1.k = 4 ∧ p.2.k = 4 ∧ p.1.s = p.2.s ∧ p.1.l.length = p.2.l.length)
mutual
theorem T.diff_some : ∀ (a b : T) (p : T × T), a.formed = true → b.formed = true → T.diff a b = some p → Differ (fun x => ∀ m, T.occ m x → T.occ m a) (fun y => ∀ m, T.occ m y → T.occ m b) (fun θ => T.map θ a = T.map θ b) p
  | .mk k n s l, .mk k' n' s' l', p, ha, hb, h => by
    rw [T.diff] at h
    by_cases hc : k = 4 ∧ k' = 4 ∧ s = s' ∧ l.length = l'.length
    · rw [if_pos hc] at h
      obtain ⟨rfl, rfl, rfl, hl⟩ := hc
      obtain ⟨rfl, _, _, _, h1⟩ := formed_comp ha
      obtain ⟨rfl, _, _, _, h2⟩ := formed_comp hb
      have := T.diffL_some l l' p h1 h2 hl h
      refine ⟨this.fx, this.fy, fun m hm => ?_, fun m hm => ?_, fun θ hθ => this.go θ ?_, this.ne, this.head⟩
      · rw [T.occ, if_neg (by decide), if_pos rfl]; exact this.ox m hm
      · rw [T.occ, if_neg (by decide), if_pos rfl]; exact this.oy m hm
      · rw [T.map, T.map, if_neg (by decide), if_pos rfl, if_neg (by decide), if_pos rfl] at hθ
        injection hθ
    · rw [if_neg hc] at h
      by_cases hs : T.same (.mk k n s l) (.mk k' n' s' l') = true
      · rw [if_pos hs] at h; cases h
      · rw [if_neg hs] at h
        cases h
        exact ⟨ha, hb, fun _ hm => hm, fun _ hm => hm, fun _ hθ => hθ, fun e => hs ((same_iff _ _).2 e), hc⟩
theorem T.diffL_some : ∀ (a b : List T) (p : T × T), T.formedL a = true → T.formedL b = true → a.length = b.length → T.diffL a b = some p → Differ (fun x => ∀ m, T.occ m x → T.occL m a) (fun y => ∀ m, T.occ m y → T.occL m b) (fun θ => T.mapL θ a = T.mapL θ b) p
  | [], [], _, _, _, _, h => by rw [T.diffL] at h; cases h; all_goals simp
  | x :: xs, y :: ys, p, ha, hb, hl, h => by
    rw [T.formedL, Bool.and_eq_true] at ha hb
    rw [T.diffL] at h
    cases hd : T.diff x y with
    | some q =>
      rw [hd] at h
      cases h
      have := T.diff_some x y p ha.1 hb.1 hd
      refine ⟨this.fx, this.fy, fun m hm => ?_, fun m hm => ?_, fun θ hθ => this.go θ ?_, this.ne, this.head⟩
      · rw [T.occL]; exact .inl (this.ox m hm)
      · rw [T.occL]; exact .inl (this.oy m hm)
      · rw [T.mapL, T.mapL] at hθ
        injection hθ
    | none =>
      rw [hd] at h
      have := T.diffL_some xs ys p ha.2 hb.2 (by simpa using hl) h
      refine ⟨this.fx, this.fy, fun m hm => ?_, fun m hm => ?_, fun θ hθ => this.go θ ?_, this.ne, this.head⟩
      · rw [T.occL]; exact .inr (this.ox m hm)
      · rw [T.occL]; exact .inr (this.oy m hm)
      · rw [T.mapL, T.mapL] at hθ
        injection hθ
end

/-- Heads that differ do not come together. -/
theorem head_clash {θ : Int → T} {x y : T} (hx : x.formed = true) (hy : y.formed = true) (h1 : x.k ≠ 1) (h2 : y.k ≠ 1) (hne : x ≠ y) (hh : ¬ (x.k = 4 ∧ y.k = 4 ∧ x.s = y.s ∧ x.l.length = y.l.length)) : T.map θ x ≠ T.map θ y := by
  obtain ⟨k, n, s, l⟩ := x
  obtain ⟨k', n', s', l'⟩ := y
  simp only [T.k, T.s, T.l] at h1 h2 hh
  intro h
  rw [T.map, T.map, if_neg h1, if_neg h2] at h
  by_cases h4 : k = 4
  · rw [if_pos h4] at h
    by_cases h5 : k' = 4
    · rw [if_pos h5] at h
      injection h with e1 e2 e3 e4
      refine hh ⟨h4, h5, e3, ?_⟩
      have := congrArg List.length e4
      rwa [T.mapL_length, T.mapL_length] at this
    · rw [if_neg h5] at h
      injection h with e1
      exact h5 (e1.symm.trans h4)
  · rw [if_neg h4] at h
    by_cases h5 : k' = 4
    · rw [if_pos h5] at h
      injection h with e1
      exact h4 (e1.trans h5)
    · rw [if_neg h5] at h
      injection h with e1 e2 e3
      rcases formed_args hx with ⟨h6, _⟩ | ⟨_, rfl⟩
      · exact h4 h6
      rcases formed_args hy with ⟨h6, _⟩ | ⟨_, rfl⟩
      · exact h5 h6
      exact hne (by rw [e1, e2, e3])

/-- Which side is bound. -/
def orient (x y : T) : T × T := if y.k = 1 ∧ (x.k ≠ 1 ∨ x.n < y.n) then (y, x) else (x, y)
theorem orient_or (x y : T) : orient x y = (x, y) ∨ orient x y = (y, x) := by
  rw [orient]; split
  · exact .inr rfl
  · exact .inl rfl
theorem orient_nonvar {x y : T} (h : (orient x y).1.k ≠ 1) : x.k ≠ 1 ∧ y.k ≠ 1 := by
  rw [orient] at h
  split at h
  · rename_i h1; exact absurd h1.1 h
  · rename_i h1
    refine ⟨h, fun hy => h1 ⟨hy, .inl h⟩⟩
theorem orient_low {x y : T} (hx : x.formed = true) (_ : y.formed = true) (hne : x ≠ y) (h : (orient x y).1.k = 1) : ∀ m, (orient x y).2 = varT m → m < (orient x y).1.n := by
  intro m hm
  rw [orient] at h hm ⊢
  split at h
  · rename_i h1
    rw [if_pos h1] at hm ⊢
    simp only at hm ⊢
    rcases h1.2 with h2 | h2
    · rw [hm] at h2; exact absurd rfl h2
    · rw [hm] at h2; exact h2
  · rename_i h1
    rw [if_neg h1] at hm ⊢
    simp only at hm ⊢ h
    by_cases h2 : m < x.n
    · exact h2
    · refine absurd ⟨by rw [hm]; rfl, .inr ?_⟩ h1
      have h4 : y.n = m := by rw [hm]; rfl
      rw [h4]
      by_cases h3 : x.n < m
      · exact h3
      · refine absurd ?_ hne
        rw [hm, var_of_k hx h, show x.n = m by omega]

def Fat (t : T) : Prop := 100000 < T.sz t
inductive RobOut where
  | grown
  | clash
  | done (σ : Int → T)
/-- Robinson's road over some pairs. -/
inductive Rob : (Int → T) → List (T × T) → RobOut → Prop
  | nil (σ) : Rob σ [] (.done σ)
  | fat {σ a b E} (h : Fat (T.map σ a) ∨ Fat (T.map σ b)) : Rob σ ((a, b) :: E) .grown
  | same {σ a b E o} (h : ¬ (Fat (T.map σ a) ∨ Fat (T.map σ b))) (hd : T.diff (T.map σ a) (T.map σ b) = none) (hr : Rob σ E o) : Rob σ ((a, b) :: E) o
  | clash {σ a b E x y} (h : ¬ (Fat (T.map σ a) ∨ Fat (T.map σ b))) (hd : T.diff (T.map σ a) (T.map σ b) = some (x, y)) (hc : (orient x y).1.k ≠ 1 ∨ T.occ (orient x y).1.n (orient x y).2) : Rob σ ((a, b) :: E) .clash
  | grow {σ a b E x y} (h : ¬ (Fat (T.map σ a) ∨ Fat (T.map σ b))) (hd : T.diff (T.map σ a) (T.map σ b) = some (x, y)) (hc : ¬ ((orient x y).1.k ≠ 1 ∨ T.occ (orient x y).1.n (orient x y).2)) (hf : ∃ n, Fat (stepF σ (orient x y).1.n (orient x y).2 n)) : Rob σ ((a, b) :: E) .grown
  | step {σ a b E x y o} (h : ¬ (Fat (T.map σ a) ∨ Fat (T.map σ b))) (hd : T.diff (T.map σ a) (T.map σ b) = some (x, y)) (hc : ¬ ((orient x y).1.k ≠ 1 ∨ T.occ (orient x y).1.n (orient x y).2)) (hf : ¬ ∃ n, Fat (stepF σ (orient x y).1.n (orient x y).2 n)) (hr : Rob (stepF σ (orient x y).1.n (orient x y).2) ((a, b) :: E) o) : Rob σ ((a, b) :: E) o

def FormedP (E : List (T × T)) : Prop := ∀ p ∈ E, p.1.formed = true ∧ p.2.formed = true
def Unif (θ : Int → T) (E : List (T × T)) : Prop := ∀ p ∈ E, T.map θ p.1 = T.map θ p.2

/-- What one difference gives. -/
theorem differ_step {σ : Int → T} (hσ : Canon σ) {a b x y : T} (ha : a.formed = true) (hb : b.formed = true) (hd : T.diff (T.map σ a) (T.map σ b) = some (x, y)) :
    (∀ θ, Through θ σ → T.map θ a = T.map θ b → T.map θ (orient x y).1 = T.map θ (orient x y).2) ∧ (orient x y).1.formed = true ∧ (orient x y).2.formed = true ∧
    (∀ m, T.occ m (orient x y).1 → σ m = varT m) ∧ (∀ m, T.occ m (orient x y).2 → σ m = varT m) ∧ (orient x y).1 ≠ (orient x y).2 ∧
    ((orient x y).1.k ≠ 1 → ∀ θ, T.map θ (orient x y).1 ≠ T.map θ (orient x y).2) ∧ ((orient x y).1.k = 1 → ∀ m, (orient x y).2 = varT m → m < (orient x y).1.n) := by
  have h := T.diff_some _ _ _ (hσ.map ha) (hσ.map hb) hd
  have h1 : ∀ θ, Through θ σ → T.map θ a = T.map θ b → T.map θ x = T.map θ y := fun θ ht he => h.go θ (by rw [ht.map, ht.map, he])
  have hx : ∀ m, T.occ m x → σ m = varT m := fun m hm => hσ.occ_free (h.ox m hm)
  have hy : ∀ m, T.occ m y → σ m = varT m := fun m hm => hσ.occ_free (h.oy m hm)
  have hcl : (orient x y).1.k ≠ 1 → ∀ θ, T.map θ x ≠ T.map θ y := fun hk θ => by
    obtain ⟨k1, k2⟩ := orient_nonvar hk
    exact head_clash h.fx h.fy k1 k2 h.ne h.head
  have hlow := orient_low h.fx h.fy h.ne
  rcases orient_or x y with ho | ho
  · rw [ho] at hcl hlow ⊢
    exact ⟨h1, h.fx, h.fy, hx, hy, h.ne, hcl, hlow⟩
  · rw [ho] at hcl hlow ⊢
    exact ⟨fun θ ht he => (h1 θ ht he).symm, h.fy, h.fx, hy, hx, fun e => h.ne e.symm, fun hk θ e => hcl hk θ e.symm, hlow⟩
theorem differ_canon {σ : Int → T} (hσ : Canon σ) {a b x y : T} (ha : a.formed = true) (hb : b.formed = true) (hd : T.diff (T.map σ a) (T.map σ b) = some (x, y)) (hc : ¬ ((orient x y).1.k ≠ 1 ∨ T.occ (orient x y).1.n (orient x y).2)) :
    Canon (stepF σ (orient x y).1.n (orient x y).2) ∧ (∀ θ, Through θ σ → T.map θ a = T.map θ b → Through θ (stepF σ (orient x y).1.n (orient x y).2)) ∧ (orient x y).1 = varT (orient x y).1.n ∧ σ (orient x y).1.n = varT (orient x y).1.n ∧ stepF σ (orient x y).1.n (orient x y).2 (orient x y).1.n = (orient x y).2 ∧ (0 ≤ (orient x y).1.n ∧ (orient x y).1.n ≤ 1099511627776) := by
  obtain ⟨h1, h2, h3, h4, h5, h6, h7, h8⟩ := differ_step hσ ha hb hd
  generalize (orient x y).1 = u at *
  generalize (orient x y).2 = v at *
  have hk : u.k = 1 := Classical.byContradiction fun h => hc (.inl h)
  have hu := var_of_k h2 hk
  have hun : σ u.n = varT u.n := h4 u.n (by rw [hu]; exact T.occ_var.2 rfl)
  have hr : 0 ≤ u.n ∧ u.n ≤ 1099511627776 := by
    rw [hu, varT] at h2
    exact (formed_var h2).1
  refine ⟨hσ.step hun hr h3 h5 (fun ho => hc (.inr ho)) (h8 hk), fun θ ht he => ht.step ?_, hu, hun, ?_, hr⟩
  · rw [← h1 θ ht he]
    conv => lhs; rw [hu]
    exact T.map_var θ u.n
  · rw [stepF, hun, T.map_var, oneF, if_pos rfl]

/-- What is answered is the general unifier. -/
theorem Rob.sound {σ : Int → T} {E : List (T × T)} {o : RobOut} (h : Rob σ E o) : Canon σ → FormedP E →
    (∀ ρ, o = .done ρ → Canon ρ ∧ Through ρ σ ∧ Unif ρ E ∧ ∀ θ, Through θ σ → Unif θ E → Through θ ρ) ∧ (o = .clash → ∀ θ, Through θ σ → ¬ Unif θ E) := by
  induction h with
  | nil σ =>
    intro hc _
    refine ⟨fun ρ e => ?_, (fun e => nomatch e)⟩
    cases e
    exact ⟨hc, hc.self, (fun p hp => nomatch hp), fun θ ht _ => ht⟩
  | fat => intro _ _; exact ⟨(fun ρ e => nomatch e), (fun e => nomatch e)⟩
  | grow => intro _ _; exact ⟨(fun ρ e => nomatch e), (fun e => nomatch e)⟩
  | @same σ a b E o h hd hr ih =>
    intro hc hf
    have hab := hf (a, b) (by simp)
    obtain ⟨ih1, ih2⟩ := ih hc fun p hp => hf p (by simp [hp])
    have he := T.diff_none _ _ (hc.map hab.1) (hc.map hab.2) hd
    refine ⟨fun ρ e => ?_, fun e θ ht hu => ih2 e θ ht fun p hp => hu p (by simp [hp])⟩
    obtain ⟨g1, g2, g3, g4⟩ := ih1 ρ e
    refine ⟨g1, g2, fun p hp => ?_, fun θ ht hu => g4 θ ht fun p hp => hu p (by simp [hp])⟩
    rcases List.mem_cons.1 hp with rfl | hp
    · simp only
      rw [← g2.map a, ← g2.map b, he]
    · exact g3 p hp
  | @clash σ a b E x y h hd hc' =>
    intro hc hf
    have hab := hf (a, b) (by simp)
    obtain ⟨h1, h2, h3, h4, h5, h6, h7, h8⟩ := differ_step hc hab.1 hab.2 hd
    refine ⟨(fun ρ e => nomatch e), fun _ θ ht hu => ?_⟩
    have he := h1 θ ht (hu (a, b) (by simp))
    by_cases hk : (orient x y).1.k = 1
    · rcases hc' with h9 | h9
      · exact h9 hk
      · have hv := var_of_k h2 hk
        rw [hv, T.map_var] at he
        exact no_occ h3 h9 (fun e => h6 (hv.trans e.symm)) he.symm
    · exact h7 hk θ he
  | @step σ a b E x y o h hd hc' hf' hr ih =>
    intro hc hf
    have hab := hf (a, b) (by simp)
    obtain ⟨h1, h2, _⟩ := differ_canon hc hab.1 hab.2 hd hc'
    obtain ⟨ih1, ih2⟩ := ih h1 hf
    refine ⟨fun ρ e => ?_, fun e θ ht hu => ih2 e θ (h2 θ ht (hu (a, b) (by simp))) hu⟩
    obtain ⟨g1, g2, g3, g4⟩ := ih1 ρ e
    exact ⟨g1, g2.trans (Through.back hc), g3, fun θ ht hu => g4 θ (h2 θ ht (hu (a, b) (by simp))) hu⟩
end Go.Proofs.YtjdoflfdlhpbmaaGreat
