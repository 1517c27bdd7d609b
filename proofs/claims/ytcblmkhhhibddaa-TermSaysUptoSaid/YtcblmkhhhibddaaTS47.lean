/-
  Plain: the two Matches agree.
  hornref.SameBinds of two lists that say the same.
-/
import Derived.Test.YtcblmkhhhibddaaTS43
import Derived.Test.YtcblmkhhhibddaaTS46
import Derived.Test.YtcblmkhhhibddaaTS15
import Derived.Test.YtcblmkhhhibddaaTS05
namespace Go.Proofs.Ytcblmkhhhibddaa
open Go.RowKit Go.Maps Go.Lib

theorem IsAll.place {f : Int → Option T} {l : List Bd} (h : IsAll f l) {x : Bd} (hf : x.t.erase.formed = true) (hv : 0 ≤ x.v ∧ x.v ≤ 1099511627776) (hn : f x.v = none) : IsAll (putF f x.v x.t.erase) (placeL l x) := by
  have hfree : ∀ y ∈ l, y.v ≠ x.v := fun y hy e => by
    have := (h.2.1 y.v y.t.erase).1 ⟨y, hy, rfl, rfl⟩
    rw [e, hn] at this
    cases this
  refine ⟨asc_place x hv.2 l (-1) h.1 (by omega) hfree, fun m t => ?_, fun y hy => ?_⟩
  · rw [putF]
    by_cases hm : m = x.v
    · rw [if_pos hm]
      constructor
      · rintro ⟨y, hy, h1, h2⟩
        rcases (placeL_mem x l y).1 hy with rfl | hy
        · rw [h2]
        · exact absurd (h1.trans hm) (hfree y hy)
      · intro h1
        exact ⟨x, (placeL_mem x l x).2 (.inl rfl), hm.symm, Option.some.inj h1⟩
    · rw [if_neg hm, ← h.2.1 m t]
      constructor
      · rintro ⟨y, hy, h1, h2⟩
        rcases (placeL_mem x l y).1 hy with rfl | hy
        · exact absurd h1.symm hm
        · exact ⟨y, hy, h1, h2⟩
      · rintro ⟨y, hy, h1, h2⟩
        exact ⟨y, (placeL_mem x l y).2 (.inr hy), h1, h2⟩
  · rcases (placeL_mem x l y).1 hy with rfl | hy
    · exact ⟨hf, hv⟩
    · exact h.2.2 y hy
theorem IsAll.uniq {f : Int → Option T} {l l' : List Bd} (h : IsAll f l) (h' : IsAll f l') : seeBds l = seeBds l' := by
  refine pairs_uniq _ _ (seeBds_pairwise h.1) (seeBds_pairwise h'.1) fun a => ?_
  have hm : ∀ {l : List Bd}, IsAll f l → (a ∈ seeBds l ↔ f a.1 = some a.2) := fun {l} h => by
    rw [← h.2.1 a.1 a.2, seeBds, List.mem_map]
    constructor
    · rintro ⟨y, hy, rfl⟩; exact ⟨y, hy, rfl, rfl⟩
    · rintro ⟨y, hy, h1, h2⟩; exact ⟨y, hy, by rw [h1, h2]⟩
  rw [hm h, hm h']
theorem IsAll.nil : IsAll (fun _ => none) [] := ⟨rfl, fun _ _ => ⟨(fun ⟨_, h, _⟩ => nomatch h), (fun h => nomatch h)⟩, (fun _ hy => nomatch hy)⟩
theorem IsAll.has {f : Int → Option T} {l : List Bd} (h : IsAll f l) (n : Int) : hasV l n = (f n).isSome := by
  rw [Bool.eq_iff_iff, hasV_iff, Option.isSome_iff_exists]
  constructor
  · rintro ⟨y, hy, rfl⟩; exact ⟨_, (h.2.1 y.v y.t.erase).1 ⟨y, hy, rfl, rfl⟩⟩
  · rintro ⟨t, ht⟩
    obtain ⟨y, hy, h1, _⟩ := (h.2.1 n t).2 ht
    exact ⟨y, hy, h1⟩
theorem tm_eta_erase (t : Tm) : t.erase = .mk t.k t.n t.s.toList (Tm.eraseL t.l) := by
  obtain ⟨k, n, s, p, c, l⟩ := t
  rw [Tm.erase]
  rfl
mutual
/-- Where the program's matching does it, the document's shapes go the same way. -/
theorem shp_mat : ∀ (p t : Tm) (f g : Int → Option T) (L : List Bd), p.erase.formed = true → t.erase.formed = true → IsAll f L → T.mat p.erase t.erase f = some g → (Tm.shp p t L).1 = true ∧ IsAll g (Tm.shp p t L).2
  | .mk k n s a c l, t, f, g, L, hp, ht, hL, h => by
    have hte := tm_eta_erase t
    have hpe := hp
    rw [Tm.erase] at h hpe
    rw [T.mat] at h
    rw [Tm.shp]
    by_cases hk : k = 1
    · subst hk
      rw [if_pos rfl] at h ⊢
      obtain ⟨hr, -, -⟩ := formed_var hpe
      refine ⟨rfl, ?_⟩
      simp only
      rw [hL.has n]
      cases hfn : f n with
      | none =>
        rw [hfn] at h
        simp only [Option.some.injEq] at h
        subst h
        simp only [Option.isSome_none, Bool.false_eq_true, if_false]
        exact IsAll.place (x := ⟨n, t⟩) hL ht hr hfn
      | some y =>
        rw [hfn] at h
        simp only at h
        by_cases ho : T.order y t.erase = 0
        · rw [if_pos ho] at h
          simp only [Option.some.injEq] at h
          subst h
          simp only [Option.isSome_some, if_true]
          exact hL
        · rw [if_neg ho] at h; cases h
    · rw [if_neg hk] at h ⊢
      by_cases hh : k = t.erase.k ∧ n = t.erase.n ∧ s.toList = t.erase.s ∧ (Tm.eraseL l).length = t.erase.l.length
      · rw [if_pos hh] at h
        obtain ⟨h1, h2, h3, h4⟩ := hh
        rw [hte] at h1 h3 h4 h
        simp only [T.k, T.s, T.l, Tm.eraseL_length] at h1 h3 h4 h
        rw [if_pos ⟨h1, h3, h4⟩]
        have hfl := formed_args' hp
        have htl := formed_args' ht
        rw [tm_eta_erase] at hfl htl
        exact shpL_mat l t.l f g L hfl htl h4 hL h
      · rw [if_neg hh] at h; cases h
theorem shpL_mat : ∀ (p t : List Tm) (f g : Int → Option T) (L : List Bd), T.formedL (Tm.eraseL p) = true → T.formedL (Tm.eraseL t) = true → p.length = t.length → IsAll f L → T.matL (Tm.eraseL p) (Tm.eraseL t) f = some g → (Tm.shpL p t L).1 = true ∧ IsAll g (Tm.shpL p t L).2
  | [], [], f, g, L, _, _, _, hL, h => by
    rw [Tm.eraseL, T.matL] at h
    simp only [Option.some.injEq] at h
    subst h
    rw [Tm.shpL]
    exact ⟨rfl, hL⟩
    all_goals intros; simp_all
  | [], _ :: _, _, _, _, _, _, hl, _, _ => by simp at hl
  | _ :: _, [], _, _, _, _, _, hl, _, _ => by simp at hl
  | x :: xs, y :: ys, f, g, L, hp, ht, hl, hL, h => by
    rw [Tm.eraseL, T.formedL, Bool.and_eq_true] at hp ht
    rw [Tm.eraseL, Tm.eraseL, T.matL] at h
    rw [Tm.shpL]
    cases hm : T.mat x.erase y.erase f with
    | none => rw [hm] at h; cases h
    | some e =>
      rw [hm] at h
      simp only at h
      obtain ⟨a1, a2⟩ := shp_mat x y f e L hp.1 ht.1 hL hm
      rw [if_pos a1]
      exact shpL_mat xs ys e g _ hp.2 ht.2 (by simpa using hl) a2 h
end
/-- Both Matches, of terms that are formed. -/
theorem match_agree {p t : Tm} (fp : p.erase.formed = true) (ft : t.erase.formed = true) {d1 d2 : Bool} {l1 l2 : List Bd}
    (h1 : (d1 = false ∧ l1 = [] ∧ T.mat p.erase t.erase (fun _ => none) = none) ∨ (d1 = true ∧ ∃ g, T.mat p.erase t.erase (fun _ => none) = some g ∧ IsAll g l1))
    (h2 : d2 = true ↔ (Tm.shp p t []).1 = true ∧ T.map (lookupT (Tm.shp p t []).2) p.erase = t.erase) (h3 : l2 = if d2 then (Tm.shp p t []).2 else []) : d1 = d2 ∧ seeBds l1 = seeBds l2 := by
  rcases h1 with ⟨rfl, rfl, h⟩ | ⟨rfl, g, hg, hl⟩
  · have hd : d2 = false := by
      cases hd : d2 with
      | false => rfl
      | true =>
        have := (mat_iff fp ft).2 ⟨_, (h2.1 hd).2⟩
        rw [h] at this
        cases this
    rw [hd] at h3 ⊢
    rw [h3]
    exact ⟨rfl, rfl⟩
  · obtain ⟨a1, a2⟩ := shp_mat p t (fun _ => none) g [] fp ft IsAll.nil hg
    have hm := (mat_some p.erase t.erase (fun _ => none) g fp ft (fun _ _ h => by cases h) hg).2.1
    have hd : d2 = true := h2.2 ⟨a1, by rw [show lookupT (Tm.shp p t []).2 = Got g from funext fun n => a2.lookup n]; exact hm⟩
    rw [hd] at h3 ⊢
    rw [h3]
    exact ⟨rfl, hl.uniq a2⟩
end Go.Proofs.Ytcblmkhhhibddaa

namespace Go.Proofs.Ytcblmkhhhibddaa
open Go.RowKit Go.Lib

set_option maxHeartbeats 2000000 in
set_option maxRecDepth 100000 in
theorem sameBinds_calls (p q : Option Addr) (c d : Nat) (s u : List Bd) (w : World) (hs : (Bds.mk p c s).In w) (hu : (Bds.mk q d u).In w) (he : seeBds s = seeBds u) :
    Calls Try.prog 28 #[.slice p s.length c, .slice q u.length d] w (Ret (.bool true) w) := by
  have HS := Lib.hid hs
  have HU := Lib.hid hu
  have hsl := hs.2.1.1
  simp only at hsl
  have hR : Hid (∀ b, true = b → ∀ w', Gr w w' → Ret (.bool true) w (.returned (.bool b)) w') := fun b hb w' hg => ⟨by rw [hb], hg⟩
  generalize hQ : Ret (.bool true) w = Q at hR ⊢
  clear hQ hs hu
  obtain ⟨hl, hat⟩ := seeBds_at he
  have Hat := Lib.hid hat
  clear hat he
  have Hl := Lib.hid hl.symm
  rw [Hl.out]
  clear hl
  go_enter Try.func28, Try.ntmps28
  try simp only [List.append_eq, List.cons_append, List.nil_append]
  go_wp2_with fail
  go_loopg [5] s.length (fun m i wr => ∃ k : Nat, k ≤ s.length ∧ m = s.length - k ∧ i = .int .i64 k ∧ Gr w wr)
  case atStart => exact ⟨0, Nat.zero_le _, rfl, rfl, Gr.rfl' _⟩
  case round =>
    obtain ⟨k, hk, rfl, rfl, gr⟩ := hrel
    by_cases hlt : k < s.length
    · obtain ⟨b, o, rfl⟩ := HS.out.ptr (by omega)
      have hlt' : k < u.length := by have := Hl.out; omega
      obtain ⟨b', o', rfl⟩ := HU.out.ptr (by omega)
      obtain ⟨⟨c0, c1, c2, c3, c4⟩, hti, ⟨hv1, hv2⟩, hbl⟩ := (HS.out.mono gr).elem k hlt
      obtain ⟨⟨d0, d1, d2, d3, d4⟩, hti', -, hbl'⟩ := (HU.out.mono gr).elem k hlt'
      have Hti := Lib.hid hti
      have Hti' := Lib.hid hti'
      obtain ⟨e1, e2⟩ := Hat.out k hlt hlt'
      have He2 := Lib.hid e2
      have He1 := Lib.hid e1.symm
      clear hti hti' e1 e2
      generalize s[k] = x at *
      generalize u[k] = y at *
      have E1 := He1.out
      obtain ⟨yv, yt⟩ := y
      simp only at E1 d0 d1 d2 d3 d4 He2
      subst E1
      clear He1
      go_upto_region 6 with fail
      refine wp_region_rely [fx (.slice (some ⟨b, o, none⟩) s.length c), fx (.int .i64 k), fx (.pointer (some ⟨b, o + k * 5, none⟩)), fx (.pointer (some ⟨b, o + k * 5, none⟩)), fx (.int .i64 x.v), fx (.slice (some ⟨b', o', none⟩) s.length d), fx (.int .i64 k), fx (.pointer (some ⟨b', o' + k * 5, none⟩)), fx (.pointer (some ⟨b', o' + k * 5, none⟩)), fx (.int .i64 x.v), fx (.bool false), fx (.bool false), fx (.slice (some ⟨b, o, none⟩) s.length c), fx (.int .i64 k), fx (.pointer (some ⟨b, o + k * 5, none⟩)), fx (.pointer (some ⟨b, o + k * 5 + 1, none⟩)), fx x.t.val, fx (.slice (some ⟨b', o', none⟩) s.length d), fx (.int .i64 k), fx (.pointer (some ⟨b', o' + k * 5, none⟩)), fx (.pointer (some ⟨b', o' + k * 5 + 1, none⟩)), fx yt.val, fx (.bool true), fx (.bool false), fx (.bool false)]
        (by kernel_rfl) (by kernel_rfl) (by repeat (first | exact Stable.nil | refine Stable.fix ?_)) ?_ ?_
      · refine ⟨?_, ?_, ?_, ?_, ?_, ?_, ?_, ?_, ?_, ?_, ?_, ?_, ?_, ?_, ?_, ?_, ?_, ?_, ?_, ?_, ?_, ?_, ?a22, ?_, ?_, trivial⟩
        all_goals
          intro a wz hg hold
          have h0 : a.tmps[0]?.getD undef = .slice (some ⟨b, o, none⟩) s.length c := hold 0 rfl
          have h1 : a.tmps[1]?.getD undef = .slice (some ⟨b', o', none⟩) s.length d := hold 1 rfl
          have h5 : a.tmps[5]?.getD undef = .int .i64 k := hold 5 rfl
          have z0 := Gr.at hg c0
          have z1 := Gr.at hg c1
          have z2 := Gr.at hg c2
          have z3 := Gr.at hg c3
          have z4 := Gr.at hg c4
          have y0 := Gr.at hg d0
          have y1 := Gr.at hg d1
          have y2 := Gr.at hg d2
          have y3 := Gr.at hg d3
          have y4 := Gr.at hg d4
          have Hg := Lib.hid hg
          clear hold c0 c1 c2 c3 c4 d0 d1 d2 d3 d4
          simp [predsImp, Region.binds, dstAt, fx, wantedE, Act.eval]
          intros
          first
            | (rw [if_pos (by simp [*])]
               intro K hK)
            | (rename_i K hK)
          go_simp
        case a22 =>
          have hsame := same_calls (Tm.In_below Hg.out Hti.out) (Tm.In_below Hg.out Hti'.out)
          rw [He2.out, (same_iff _ _).2 rfl] at hsame
          refine hsame.mono ?_
          rintro e w2 ⟨rfl, hb2⟩
          exact hK _ _ rfl hb2
        all_goals exact hK _ _ rfl (Gr.rfl' _)
      · intro w3 hg
        rintro _ rfl _ rfl _ rfl _ rfl _ rfl _ rfl _ rfl _ rfl _ rfl _ rfl _ rfl _ rfl _ rfl _ rfl _ rfl _ rfl _ rfl _ rfl _ rfl _ rfl _ rfl _ rfl _ rfl _ rfl _ rfl
        simp only [finAll, Act.put, Exit.then, List.setIfInBounds_toArray, List.set_cons_succ, List.set_cons_zero]
        have gw3 : Gr w w3 := Gr.trans gr hg
        clear c0 c1 c2 c3 c4 d0 d1 d2 d3 d4 hg
        go_wp2_with fail
        go_roundg (s.length - (k + 1))
        case measure => omega
        case rel => exact ⟨k + 1, by omega, rfl, by go_num, gw3⟩
    · obtain rfl : k = s.length := by omega
      go_wp2_with fail
      exact hR.out _ rfl _ gr
end Go.Proofs.Ytcblmkhhhibddaa
