/-
  The store's join.
  delete from a map.
-/
import Derived.Test.YtjdoflfdlhpbmaaGreatBF25
import Derived.Test.YtjdoflfdlhpbmaaGreatBF27
import Derived.Test.YtjdoflfdlhpbmaaGreatBF19
namespace Go.Proofs.YtjdoflfdlhpbmaaGreat
open Go.RowKit Go.Maps Go.Lib

def walkV (S : Nat → Prop) (σ : Int → Option T) (ρ : Int → T) (t : T) : VP := fun v w => ∃ u : Tm, v = u.val ∧ u.In w ∧ u.On S ∧ WalkTo σ ρ t u.erase
theorem walkV_stable {S : Nat → Prop} {σ : Int → Option T} {ρ : Int → T} {t : T} : ∀ v w w', walkV S σ ρ t v w → Gr w w' → walkV S σ ρ t v w' := fun _ _ _ ⟨u, h1, h2, h3, h4⟩ hg => ⟨u, h1, Tm.In_below hg h2, h3, h4⟩

theorem own_ne {w : World} {B H : Nat} {v : Value} {L : List Int} {u : Tm} (h : IntsOwn w B v L) (hb : BlkTm w H u) : v.ownBlock ≠ some H := fun e => by
  rcases h.2 with ⟨rfl, _⟩ | ⟨g, cap, cur, rfl, h2, h3, h4⟩
  · cases e
  · cases e
    have h5 : w.heap[g]? = some (.cells #[.int .i64 u.k, .int .i64 u.n, .string u.s, .slice u.p u.l.length u.c] 24) := hb
    rw [h3] at h5
    have h6 := Option.some.inj h5
    injection h6 with _ h7
    exact absurd h7 (by decide)

def joinOf (S : Nat → Prop) (B P M : Nat) (vm : Value) (mk : List Int) (a b : Tm) (tr : List Int) (ρ : Int → T) : Prop :=
  ∀ (w : World) (vt : Value) (σ : Int → Option T), SM S B w P M vt vm σ tr mk → StoreOk σ ρ → a.In w → b.In w → a.On S → b.On S → Calls Tryz.prog 63 #[.pointer (some ⟨P, 0, none⟩), a.val, b.val] w (RetJoin S B P M vt vm σ tr mk ρ a.erase b.erase w)

set_option maxHeartbeats 4000000 in
set_option maxRecDepth 100000 in
theorem join_step {S : Nat → Prop} {B P M : Nat} {vm : Value} {mk : List Int} {a b : Tm} {tr : List Int} {ρ : Int → T} (fa : a.erase.formed = true) (fb : b.erase.formed = true)
    (hU : ∀ x y : Tm, x.erase.formed = true → y.erase.formed = true → ∀ tr' ρ', tr.length < tr'.length → joinOf S B P M vm mk x y tr' ρ')
    (hN : ∀ x y : Tm, x.erase.formed = true → y.erase.formed = true → T.sz (T.map ρ x.erase) + T.sz (T.map ρ y.erase) < T.sz (T.map ρ a.erase) + T.sz (T.map ρ b.erase) → joinOf S B P M vm mk x y tr ρ) : joinOf S B P M vm mk a b tr ρ := by
  intro w vt σ hs ho ia ib oa ob
  have HU := Lib.hid hU
  have HN := Lib.hid hN
  have HS := Lib.hid hs
  have HO := Lib.hid ho
  have Ia := Lib.hid ia
  have Ib := Lib.hid ib
  have Oa := Lib.hid oa
  have Ob := Lib.hid ob
  have Fa := Lib.hid fa
  have Fb := Lib.hid fb
  have HSl : Hid (∀ b, S b → b < w.heap.size) := fun b hb => (hs.sepS b hb).1
  have hPl := hs.blk.lt
  have hMl := hs.map.lt
  have hR : Hid (∀ e w', RetJoin S B P M vt vm σ tr mk ρ a.erase b.erase w e w' → RetJoin S B P M vt vm σ tr mk ρ a.erase b.erase w e w') := fun e w' h => h
  generalize hQ : RetJoin S B P M vt vm σ tr mk ρ a.erase b.erase w = Q at hR ⊢
  have HQ : Hid (∀ e w', RetJoin S B P M vt vm σ tr mk ρ a.erase b.erase w e w' → Q e w') := fun e w' h => by rw [← hQ]; exact h
  clear hs ho ia ib oa ob fa fb hU hN hR hQ
  have hwa := fun w' (g : Gr w w') => walk_calls (HS.out.gr g) HO.out a (Tm.In_below g Ia.out) Oa.out Fa.out
  have hwb := fun w' (g : Gr w w') => walk_calls (HS.out.gr g) HO.out b (Tm.In_below g Ib.out) Ob.out Fb.out
  rw [show a.val = .agg #[.int .i64 a.k, .int .i64 a.n, .string a.s, .slice a.p a.l.length a.c] from rfl] at hwa ⊢
  rw [show b.val = .agg #[.int .i64 b.k, .int .i64 b.n, .string b.s, .slice b.p b.l.length b.c] from rfl] at hwb ⊢
  have Hwa := Lib.hid hwa
  have Hwb := Lib.hid hwb
  clear hwa hwb
  go_enter Tryz.func63, Tryz.ntmps63
  try simp only [List.append_eq, List.cons_append, List.nil_append]
  go_upto_region 1 with fail
  obtain ⟨h4, h5, gA⟩ := two_blocks w (.int .i64 a.k) (.int .i64 a.n) (.string a.s) (.slice a.p a.l.length a.c) (.int .i64 b.k) (.int .i64 b.n) (.string b.s) (.slice b.p b.l.length b.c)
  generalize ((w.alloc (.cells #[.int .i64 a.k, .int .i64 a.n, .string a.s, .slice a.p a.l.length a.c] 24)).alloc (.cells #[.int .i64 b.k, .int .i64 b.n, .string b.s, .slice b.p b.l.length b.c] 24)) = wA at *
  have sA : w.heap.size + 1 < wA.heap.size := h5.out.parts.2.2
  obtain ⟨⟨x0, x1, x2, x3⟩, _, _⟩ := h4.out.parts
  obtain ⟨⟨y0, y1, y2, y3⟩, _, _⟩ := h5.out.parts
  refine wp_region_rely_tail 6 [fx (.pointer (some ⟨P, 0, none⟩)), fx (.agg #[.int .i64 a.k, .int .i64 a.n, .string a.s, .slice a.p a.l.length a.c]), walkV S σ ρ a.erase, fx (.pointer (some ⟨P, 0, none⟩)), fx (.agg #[.int .i64 b.k, .int .i64 b.n, .string b.s, .slice b.p b.l.length b.c]), walkV S σ ρ b.erase]
    (by kernel_rfl) (by kernel_rfl) (by decide) (by repeat (first | exact Stable.nil | refine Stable.fix ?_ | refine Stable.cons walkV_stable ?_)) ?_ ?_
  · refine ⟨?_, ?_, ?a2, ?_, ?_, ?a5, trivial⟩
    all_goals
      intro af wz hg hold
      have h0 : af.tmps[0]?.getD undef = .pointer (some ⟨P, 0, none⟩) := hold 0 rfl
      have h4 : af.tmps[4]?.getD undef = .pointer (some ⟨w.heap.size, 0, none⟩) := hold 4 rfl
      have h5 : af.tmps[5]?.getD undef = .pointer (some ⟨w.heap.size + 1, 0, none⟩) := hold 5 rfl
      have z0 := Gr.at hg x0
      have z1 := Gr.at hg x1
      have z2 := Gr.at hg x2
      have z3 := Gr.at hg x3
      have zy0 := Gr.at hg y0
      have zy1 := Gr.at hg y1
      have zy2 := Gr.at hg y2
      have zy3 := Gr.at hg y3
      have Hg := Lib.hid hg
      clear hold x0 x1 x2 x3 y0 y1 y2 y3
      simp [predsImp, Region.binds, dstAt, fx]
      intros
      first
        | (rw [if_pos (by simp [*])]
           intro K hK)
        | (rename_i K hK)
      go_simp
    case a2 =>
      refine (Hwa.out _ (gA.trans Hg.out)).mono ?_
      rintro e w9 ⟨u, rfl, i1, i2, i3, ib⟩
      exact hK _ _ ⟨u, rfl, i1, i2, i3⟩ ib
    case a5 =>
      refine (Hwb.out _ (gA.trans Hg.out)).mono ?_
      rintro e w9 ⟨u, rfl, i1, i2, i3, ib⟩
      exact hK _ _ ⟨u, rfl, i1, i2, i3⟩ ib
    all_goals exact hK _ _ rfl (Gr.rfl' _)
  · intro w9 hg
    rintro _ rfl _ rfl _ ⟨u, rfl, iu, ou, wu⟩ _ rfl _ rfl _ ⟨v, rfl, iv, ov, wv⟩
    simp only [finAll, Act.put, List.setIfInBounds_toArray, List.set_cons_succ, List.set_cons_zero, List.drop_succ_cons, List.drop_zero, List.take_zero]
    have gw9 : Gr w w9 := gA.trans hg
    have Huv := Lib.hid (show u.val = .agg #[.int .i64 u.k, .int .i64 u.n, .string u.s, .slice u.p u.l.length u.c] from rfl)
    have Hvv := Lib.hid (show v.val = .agg #[.int .i64 v.k, .int .i64 v.n, .string v.s, .slice v.p v.l.length v.c] from rfl)
    have k4 := h4.out.gr hg
    have k5 := h5.out.gr hg
    obtain ⟨⟨p0, p1, p2, p3⟩, ⟨f0, f1, f2, f3⟩, _⟩ := k4.parts
    obtain ⟨⟨q0, q1, q2, q3⟩, ⟨g0, g1, g2, g3⟩, _⟩ := k5.parts
    have Hst := Lib.hid (fun W hW => two_stores u v k4 k5 (by omega) W hW)
    have Iu := Lib.hid iu
    have Iv := Lib.hid iv
    have Ou := Lib.hid ou
    have Ov := Lib.hid ov
    have Wu := Lib.hid wu
    have Wv := Lib.hid wv
    clear iu iv ou ov wu wv k4 k5 x0 x1 x2 x3 y0 y1 y2 y3 hg
    rw [Huv.out, Hvv.out]
    go_upto_region 2 with fail
    obtain ⟨b4, b5, k45⟩ := Hst.out _ rfl
    generalize ((((((((w9.setCell ⟨w.heap.size, 0, none⟩ (.int .i64 u.k)).setCell ⟨w.heap.size, 1, none⟩ (.int .i64 u.n)).setCell ⟨w.heap.size, 2, none⟩ (.string u.s)).setCell ⟨w.heap.size, 3, none⟩ (.slice u.p u.l.length u.c)).setCell ⟨w.heap.size + 1, 0, none⟩ (.int .i64 v.k)).setCell ⟨w.heap.size + 1, 1, none⟩ (.int .i64 v.n)).setCell ⟨w.heap.size + 1, 2, none⟩ (.string v.s)).setCell ⟨w.heap.size + 1, 3, none⟩ (.slice v.p v.l.length v.c)) = w2 at *
    have gw2 : Gr w w2 := Below.trans gw9 (k45.below (fun b hb => by omega) gw9.size)
    replace Iu := Lib.hid (kp_in Iu.out Ou.out (fun b hb => by have := HSl.out b hb; omega) k45)
    replace Iv := Lib.hid (kp_in Iv.out Ov.out (fun b hb => by have := HSl.out b hb; omega) k45)
    have s2 : w.heap.size + 1 < w2.heap.size := (Array.getElem?_eq_some_iff.1 b5).1
    have B4 := Lib.hid b4
    have B5 := Lib.hid b5
    clear Hst k45 p0 p1 p2 p3 f0 f1 f2 f3 q0 q1 q2 q3 g0 g1 g2 g3 h4 h5 sA gA gw9
    obtain ⟨⟨x0, x1, x2, x3⟩, _, _⟩ := Blk4.parts b4
    obtain ⟨⟨y0, y1, y2, y3⟩, _, _⟩ := Blk4.parts b5
    clear b4 b5
    have Hvu : Hid (u.k = 1 → (σ u.n = none ∧ u.erase = varT u.n ∧ T.map ρ a.erase = varT u.n) ∧ 0 ≤ u.n ∧ u.n ≤ 1099511627776) := fun hk => by
      have hk' : u.erase.k = 1 := by rw [Tm.erase_k]; exact hk
      have h1 := Wu.out.var HO.out hk'
      have h2 := Wu.out.stop hk'
      have h3 := T.occ_range (n := u.erase.n) u.erase Wu.out.form (by rw [h1.1]; exact T.occ_var.2 rfl)
      rw [Tm.erase_n] at h1 h2 h3
      exact ⟨⟨h2, h1⟩, h3⟩
    have Hvv2 : Hid (v.k = 1 → (σ v.n = none ∧ v.erase = varT v.n ∧ T.map ρ b.erase = varT v.n) ∧ 0 ≤ v.n ∧ v.n ≤ 1099511627776) := fun hk => by
      have hk' : v.erase.k = 1 := by rw [Tm.erase_k]; exact hk
      have h1 := Wv.out.var HO.out hk'
      have h2 := Wv.out.stop hk'
      have h3 := T.occ_range (n := v.erase.n) v.erase Wv.out.form (by rw [h1.1]; exact T.occ_var.2 rfl)
      rw [Tm.erase_n] at h1 h2 h3
      exact ⟨⟨h2, h1⟩, h3⟩
    have HiffA : Hid (u.k = 1 → ∀ θ, Through θ ρ → (T.map θ a.erase = T.map θ b.erase ↔ θ u.n = T.map θ v.erase)) := fun hk θ ht => by
      rw [← ht.map a.erase, (Hvu.out hk).1.2.2, T.map_var, ← ht.map b.erase, ← Wv.out.same, ht.map]
    have HiffB : Hid (v.k = 1 → ∀ θ, Through θ ρ → (T.map θ a.erase = T.map θ b.erase ↔ θ v.n = T.map θ u.erase)) := fun hk θ ht => by
      rw [← ht.map b.erase, (Hvv2.out hk).1.2.2, T.map_var, ← ht.map a.erase, ← Wu.out.same, ht.map]
      exact eq_comm
    by_cases hku : u.k = 1
    · have ku2 : (u.k == 1) = true := by simp [hku]
      have Ku := Lib.hid hku
      by_cases hkv : v.k = 1
      · have kv2 : (v.k == 1) = true := by simp [hkv]
        have Kv := Lib.hid hkv
        clear hku hkv
        by_cases hlt : u.n < v.n
        · have hl2 : decide (u.n < v.n) = true := decide_eq_true hlt
          have Hlt := Lib.hid hlt
          clear hlt
          have hbind := bind_calls (HS.out.gr gw2) HO.out v.n (Hvv2.out Kv.out).1.1 (Hvv2.out Kv.out).2 u Iu.out Ou.out Wu.out.form (fun h => ⟨(Hvu.out h).1.1, by have := Hlt.out; omega⟩)
          rw [Huv.out] at hbind
          have Hbind := Lib.hid hbind
          have Hlow : Hid (∀ m, u.erase = varT m → m < v.n) := fun m hm => by
            have h1 := (Hvu.out Ku.out).1.2.1
            rw [hm, varT, varT] at h1
            injection h1 with _ h2
            have := Hlt.out
            omega
          have Hiff : Hid (∀ θ, Through θ ρ → (T.map θ a.erase = T.map θ b.erase ↔ θ v.n = T.map θ u.erase)) := HiffB.out Kv.out
          have Hx := Lib.hid (Hvv2.out Kv.out).1.1
          have Hr := Lib.hid (Hvv2.out Kv.out).2
          clear hbind
          go_wp2_with fail
          refine Hbind.out.mono ?_
          rintro e w3 hret
          have hj := join_bind HS.out HO.out gw2 Hiff.out Hx.out Hr.out Wu.out.form Hlow.out hret
          obtain ⟨r, -, -, -, -, he, -⟩ := hj
          subst he
          have hj := Lib.hid (join_bind HS.out HO.out gw2 Hiff.out Hx.out Hr.out Wu.out.form Hlow.out hret)
          clear hret
          clear x0 x1 x2 x3 y0 y1 y2 y3
          go_wp2_with fail
          exact HQ.out _ _ hj.out
        · have hl2 : decide (u.n < v.n) = false := decide_eq_false hlt
          by_cases hgt : u.n > v.n
          · have hl3 : decide (u.n > v.n) = true := decide_eq_true hgt
            have Hgt := Lib.hid hgt
            clear hlt hgt
            have hbind := bind_calls (HS.out.gr gw2) HO.out u.n (Hvu.out Ku.out).1.1 (Hvu.out Ku.out).2 v Iv.out Ov.out Wv.out.form (fun h => ⟨(Hvv2.out h).1.1, by have := Hgt.out; omega⟩)
            rw [Hvv.out] at hbind
            have Hbind := Lib.hid hbind
            have Hlow : Hid (∀ m, v.erase = varT m → m < u.n) := fun m hm => by
              have h1 := (Hvv2.out Kv.out).1.2.1
              rw [hm, varT, varT] at h1
              injection h1 with _ h2
              have := Hgt.out
              omega
            have Hiff : Hid (∀ θ, Through θ ρ → (T.map θ a.erase = T.map θ b.erase ↔ θ u.n = T.map θ v.erase)) := HiffA.out Ku.out
            have Hx := Lib.hid (Hvu.out Ku.out).1.1
            have Hr := Lib.hid (Hvu.out Ku.out).2
            clear hbind
            go_wp2_with fail
            refine Hbind.out.mono ?_
            rintro e w3 hret
            have hj := join_bind HS.out HO.out gw2 Hiff.out Hx.out Hr.out Wv.out.form Hlow.out hret
            obtain ⟨r, -, -, -, -, he, -⟩ := hj
            subst he
            have hj := Lib.hid (join_bind HS.out HO.out gw2 Hiff.out Hx.out Hr.out Wv.out.form Hlow.out hret)
            clear hret
            clear x0 x1 x2 x3 y0 y1 y2 y3
            go_wp2_with fail
            exact HQ.out _ _ hj.out
          · have hl3 : decide (u.n > v.n) = false := decide_eq_false hgt
            have Heq : Hid (T.map ρ a.erase = T.map ρ b.erase) := by
              show _ = _
              rw [(Hvu.out Ku.out).1.2.2, (Hvv2.out Kv.out).1.2.2, show u.n = v.n by omega]
            clear hlt hgt
            go_wp2_with fail
            exact HQ.out _ _ (join_true HS.out HO.out gw2 Heq.out)
      · have kv2 : (v.k == 1) = false := by simp [hkv]
        have Kv := Lib.hid hkv
        clear hku hkv
        have hbind := bind_calls (HS.out.gr gw2) HO.out u.n (Hvu.out Ku.out).1.1 (Hvu.out Ku.out).2 v Iv.out Ov.out Wv.out.form (fun h => absurd h Kv.out)
        rw [Hvv.out] at hbind
        have Hbind := Lib.hid hbind
        have Hlow : Hid (∀ m, v.erase = varT m → m < u.n) := fun m hm => absurd (by rw [← Tm.erase_k, hm]; rfl) Kv.out
        have Hiff : Hid (∀ θ, Through θ ρ → (T.map θ a.erase = T.map θ b.erase ↔ θ u.n = T.map θ v.erase)) := HiffA.out Ku.out
        have Hx := Lib.hid (Hvu.out Ku.out).1.1
        have Hr := Lib.hid (Hvu.out Ku.out).2
        clear hbind
        go_wp2_with fail
        refine Hbind.out.mono ?_
        rintro e w3 hret
        have hj := join_bind HS.out HO.out gw2 Hiff.out Hx.out Hr.out Wv.out.form Hlow.out hret
        obtain ⟨r, -, -, -, -, he, -⟩ := hj
        subst he
        have hj := Lib.hid (join_bind HS.out HO.out gw2 Hiff.out Hx.out Hr.out Wv.out.form Hlow.out hret)
        clear hret
        clear x0 x1 x2 x3 y0 y1 y2 y3
        go_wp2_with fail
        exact HQ.out _ _ hj.out
    · have ku2 : (u.k == 1) = false := by simp [hku]
      have Ku := Lib.hid hku
      by_cases hkv : v.k = 1
      · have kv2 : (v.k == 1) = true := by simp [hkv]
        have Kv := Lib.hid hkv
        clear hku hkv
        have hbind := bind_calls (HS.out.gr gw2) HO.out v.n (Hvv2.out Kv.out).1.1 (Hvv2.out Kv.out).2 u Iu.out Ou.out Wu.out.form (fun h => absurd h Ku.out)
        rw [Huv.out] at hbind
        have Hbind := Lib.hid hbind
        have Hlow : Hid (∀ m, u.erase = varT m → m < v.n) := fun m hm => absurd (by rw [← Tm.erase_k, hm]; rfl) Ku.out
        have Hiff : Hid (∀ θ, Through θ ρ → (T.map θ a.erase = T.map θ b.erase ↔ θ v.n = T.map θ u.erase)) := HiffB.out Kv.out
        have Hx := Lib.hid (Hvv2.out Kv.out).1.1
        have Hr := Lib.hid (Hvv2.out Kv.out).2
        clear hbind
        go_wp2_with fail
        refine Hbind.out.mono ?_
        rintro e w3 hret
        have hj := join_bind HS.out HO.out gw2 Hiff.out Hx.out Hr.out Wu.out.form Hlow.out hret
        obtain ⟨r, -, -, -, -, he, -⟩ := hj
        subst he
        have hj := Lib.hid (join_bind HS.out HO.out gw2 Hiff.out Hx.out Hr.out Wu.out.form Hlow.out hret)
        clear hret
        clear x0 x1 x2 x3 y0 y1 y2 y3
        go_wp2_with fail
        exact HQ.out _ _ hj.out
      · have kv2 : (v.k == 1) = false := by simp [hkv]
        have Kv := Lib.hid hkv
        clear hku hkv
        go_upto_region 12 with fail
        go_cut [63] from 64 to 91 (fun c wx => c = .bool (!decide (u.k = v.k ∧ u.n = v.n ∧ u.s.toList = v.s.toList ∧ u.l.length = v.l.length)) ∧ wx = w2)
        case first =>
          by_cases e1 : u.k = v.k
          · have f1 : (u.k != v.k) = false := by simp [e1]
            by_cases e2 : u.n = v.n
            · have f2 : (u.n != v.n) = false := by simp [e2]
              by_cases e3 : u.s.toList = v.s.toList
              · have f3 : (u.s.toList == v.s.toList) = true := by simp [e3]
                have f3' : (u.s.toList != v.s.toList) = false := by simp [e3]
                by_cases e4 : u.l.length = v.l.length
                · have f4 : ((u.l.length : Int) != v.l.length) = false := by simp [e4]
                  have Hd := Lib.hid (show (!decide (u.k = v.k ∧ u.n = v.n ∧ u.s.toList = v.s.toList ∧ u.l.length = v.l.length)) = false by rw [decide_eq_true ⟨e1, e2, e3, e4⟩]; rfl)
                  clear e1 e2 e3 e4
                  go_wp2_with fail
                  go_meet
                  exact ⟨by rw [Hd.out], rfl⟩
                · have f4 : ((u.l.length : Int) != v.l.length) = true := by simp only [bne_iff_ne]; omega
                  have Hd := Lib.hid (show (!decide (u.k = v.k ∧ u.n = v.n ∧ u.s.toList = v.s.toList ∧ u.l.length = v.l.length)) = true by rw [decide_eq_false fun h => e4 h.2.2.2]; rfl)
                  clear e1 e2 e3 e4
                  go_wp2_with fail
                  go_meet
                  exact ⟨by rw [Hd.out], rfl⟩
              · have f3 : (u.s.toList == v.s.toList) = false := by simp [e3]
                have f3' : (u.s.toList != v.s.toList) = true := by simp [e3]
                have Hd := Lib.hid (show (!decide (u.k = v.k ∧ u.n = v.n ∧ u.s.toList = v.s.toList ∧ u.l.length = v.l.length)) = true by rw [decide_eq_false fun h => e3 h.2.2.1]; rfl)
                clear e1 e2 e3
                go_wp2_with fail
                go_meet
                exact ⟨by rw [Hd.out], rfl⟩
            · have f2 : (u.n != v.n) = true := by simp [e2]
              have Hd := Lib.hid (show (!decide (u.k = v.k ∧ u.n = v.n ∧ u.s.toList = v.s.toList ∧ u.l.length = v.l.length)) = true by rw [decide_eq_false fun h => e2 h.2.1]; rfl)
              clear e1 e2
              go_wp2_with fail
              go_meet
              exact ⟨by rw [Hd.out], rfl⟩
          · have f1 : (u.k != v.k) = true := by simp [e1]
            have Hd := Lib.hid (show (!decide (u.k = v.k ∧ u.n = v.n ∧ u.s.toList = v.s.toList ∧ u.l.length = v.l.length)) = true by rw [decide_eq_false fun h => e1 h.1]; rfl)
            clear e1
            go_wp2_with fail
            go_meet
            exact ⟨by rw [Hd.out], rfl⟩
        obtain ⟨rfl, rfl⟩ := hcut
        by_cases hh : u.k = v.k ∧ u.n = v.n ∧ u.s.toList = v.s.toList ∧ u.l.length = v.l.length
        · have hd : decide (u.k = v.k ∧ u.n = v.n ∧ u.s.toList = v.s.toList ∧ u.l.length = v.l.length) = true := decide_eq_true hh
          rw [hd]
          have Hlen := Lib.hid hh.2.2.2.symm
          have Hargs := Lib.hid (fun θ ht => args_same Wu.out Wv.out Ku.out hh θ ht)
          obtain ⟨hslu, hau, hu4⟩ := arg_parts Iu.out Ou.out Wu.out.form (fun h => Ku.out h)
          obtain ⟨hslv, hav, hv4⟩ := arg_parts Iv.out Ov.out Wv.out.form (fun h => Kv.out h)
          have Hslu := Lib.hid hslu
          have Hslv := Lib.hid hslv
          have Hau := Lib.hid hau
          have Hav := Lib.hid hav
          have Hu4 := Lib.hid hu4
          have Hv4 := Lib.hid hv4
          have hul : u.l.length * 56 ≤ 140737488351232 := hslu.2.1.1
          have HonU : Hid (Tm.SlOn S u.p u.l) := by
            have := Ou.out
            cases u with
            | mk k n s p c l => rw [Tm.On] at this; exact this
          have HonV : Hid (Tm.SlOn S v.p v.l) := by
            have := Ov.out
            cases v with
            | mk k n s p c l => rw [Tm.On] at this; exact this
          have Hsame : Hid (∀ vt' σ' ρ' new w', JS S B P M vt vm σ tr mk ρ w vt' σ' ρ' new w' → ∀ b, S b → ∀ o, w'.cell? ⟨b, o, none⟩ = wc.cell? ⟨b, o, none⟩) := fun vt' σ' ρ' new w' hj b hb o => by
            have hlt := HSl.out b hb
            exact World.cell?_of_block ((hj.kp.block b hlt (HS.out.nmut hb)).trans (gw2.block b hlt).symm)
          clear hh hd hslu hau hu4 hslv hav hv4
          go_wp2_with fail
          go_loopg [95] u.l.length (fun m i wr => ∃ (k : Nat) (vt' : Value) (σ' : Int → Option T) (ρ' : Int → T) (new : List Int), k ≤ u.l.length ∧ m = u.l.length - k ∧ i = .int .i64 k ∧ Hid (JS S B P M vt vm σ tr mk ρ w vt' σ' ρ' new wr) ∧ Hid (∀ (j : Nat) (h : j < u.l.length) (h' : j < v.l.length), j < k → T.map ρ' u.l[j].erase = T.map ρ' v.l[j].erase) ∧ Hid (∀ θ, Through θ ρ → T.map θ a.erase = T.map θ b.erase → Through θ ρ') ∧ Hid (BlkTm wr w.heap.size u) ∧ Hid (BlkTm wr (w.heap.size + 1) v))
          case atStart => exact ⟨0, vt, σ, ρ, [], Nat.zero_le _, rfl, rfl, JS.start HS.out HO.out gw2, fun j _ _ h => absurd h (Nat.not_lt_zero j), fun θ ht _ => ht, B4, B5⟩
          case round =>
            obtain ⟨k, vt', σ', ρ', new, hk, rfl, rfl, hjs, heq, hth, hb4, hb5⟩ := hrel
            clear x0 x1 x2 x3 y0 y1 y2 y3
            obtain ⟨⟨x0, x1, x2, x3⟩, _, _⟩ := Blk4.parts hb4.out
            obtain ⟨⟨y0, y1, y2, y3⟩, _, _⟩ := Blk4.parts hb5.out
            by_cases hlt : k < u.l.length
            · have hlt' : k < v.l.length := by have := Hlen.out; omega
              have hslu := Tm.Sl.same (Hsame.out _ _ _ _ _ hjs.out) Hslu.out HonU.out
              have hslv := Tm.Sl.same (Hsame.out _ _ _ _ _ hjs.out) Hslv.out HonV.out
              obtain ⟨b1, o1, hp1⟩ := hslu.ptr (by omega)
              obtain ⟨b2, o2, hp2⟩ := hslv.ptr (by omega)
              rw [hp1] at hslu x3
              rw [hp2] at hslv y3
              clear hp1 hp2
              obtain ⟨⟨c0, c1, c2, c3⟩, hxi, -⟩ := hslu.elem k hlt
              obtain ⟨⟨d0, d1, d2, d3⟩, hyi, -⟩ := hslv.elem k hlt'
              have hjo : joinOf S B P M vm mk u.l[k] v.l[k] (tr ++ new) ρ' := by
                by_cases hn : new = []
                · rw [hn, List.append_nil, hjs.out.nl hn]
                  refine HN.out _ _ (Hau.out _ (List.getElem_mem hlt)).2.2 (Hav.out _ (List.getElem_mem hlt')).2.2 ?_
                  have g1 := sz_arg ρ (u := u) (by rcases Hu4.out with h | h; exact h; rw [h] at hlt; exact absurd hlt (Nat.not_lt_zero _)) (List.getElem_mem hlt)
                  have g2 := sz_arg ρ (u := v) (by rcases Hv4.out with h | h; exact h; rw [h] at hlt'; exact absurd hlt' (Nat.not_lt_zero _)) (List.getElem_mem hlt')
                  rw [Wu.out.same] at g1
                  rw [Wv.out.same] at g2
                  omega
                · refine HU.out _ _ (Hau.out _ (List.getElem_mem hlt)).2.2 (Hav.out _ (List.getElem_mem hlt')).2.2 _ _ ?_
                  have := List.length_pos_iff.2 hn
                  rw [List.length_append]
                  omega
              have Hcall := Lib.hid (fun W (hg : Gr wr W) => hjo W vt' σ' (hjs.out.sm.gr hg) hjs.out.ok (Tm.In_below hg hxi) (Tm.In_below hg hyi) (Hau.out _ (List.getElem_mem hlt)).2.1 (Hav.out _ (List.getElem_mem hlt')).2.1)
              have Hnext : Hid (∀ ρ2, Through ρ2 ρ' → T.map ρ2 u.l[k].erase = T.map ρ2 v.l[k].erase → ∀ (j : Nat) (h : j < u.l.length) (h' : j < v.l.length), j < k + 1 → T.map ρ2 u.l[j].erase = T.map ρ2 v.l[j].erase) := fun ρ2 ht h2 j h h' hj => by
                rcases Nat.lt_or_ge j k with h3 | h3
                · rw [← ht.map u.l[j].erase, heq.out j h h' h3, ht.map]
                · obtain rfl : j = k := by omega
                  exact h2
              have Hth2 : Hid (∀ θ, Through θ ρ → T.map θ a.erase = T.map θ b.erase → T.map θ u.l[k].erase = T.map θ v.l[k].erase) := fun θ ht he => (Hargs.out θ ht).1 he k hlt hlt'
              have hpl' := hjs.out.sm.blk.lt
              clear hslu hslv hxi hyi hjo
              generalize u.l[k] = x at *
              generalize v.l[k] = y at *
              have Hxv := Lib.hid (show x.val = .agg #[.int .i64 x.k, .int .i64 x.n, .string x.s, .slice x.p x.l.length x.c] from rfl)
              have Hyv := Lib.hid (show y.val = .agg #[.int .i64 y.k, .int .i64 y.n, .string y.s, .slice y.p y.l.length y.c] from rfl)
              go_upto_region 17 with fail
              refine wp_region_rely_tail 11 [fx (.pointer (some ⟨P, 0, none⟩)), fx (.pointer (some ⟨w.heap.size, 3, none⟩)), fx (.slice (some ⟨b1, o1, none⟩) u.l.length u.c), fx (.int .i64 k), fx (.pointer (some ⟨b1, o1 + k * 4, none⟩)), fx x.val, fx (.pointer (some ⟨w.heap.size + 1, 3, none⟩)), fx (.slice (some ⟨b2, o2, none⟩) v.l.length v.c), fx (.int .i64 k), fx (.pointer (some ⟨b2, o2 + k * 4, none⟩)), fx y.val]
                (by kernel_rfl) (by kernel_rfl) (by decide) (by repeat (first | exact Stable.nil | refine Stable.fix ?_)) ?_ ?_
              · refine ⟨?_, ?_, ?_, ?_, ?_, ?_, ?_, ?_, ?_, ?_, ?_, trivial⟩
                all_goals
                  intro af wz hg hold
                  have h0 : af.tmps[0]?.getD undef = .pointer (some ⟨P, 0, none⟩) := hold 0 rfl
                  have h4 : af.tmps[4]?.getD undef = .pointer (some ⟨w.heap.size, 0, none⟩) := hold 4 rfl
                  have h5 : af.tmps[5]?.getD undef = .pointer (some ⟨w.heap.size + 1, 0, none⟩) := hold 5 rfl
                  have h7 : af.tmps[7]?.getD undef = .int .i64 k := hold 7 rfl
                  have z0 := Gr.at hg x3
                  have z1 := Gr.at hg y3
                  have z2 := Gr.at hg c0
                  have z3 := Gr.at hg c1
                  have z4 := Gr.at hg c2
                  have z5 := Gr.at hg c3
                  have z6 := Gr.at hg d0
                  have z7 := Gr.at hg d1
                  have z8 := Gr.at hg d2
                  have z9 := Gr.at hg d3
                  have Hg := Lib.hid hg
                  clear hold x0 x1 x2 x3 y0 y1 y2 y3 c0 c1 c2 c3 d0 d1 d2 d3
                  simp [predsImp, Region.binds, dstAt, fx]
                  intros
                  first
                    | (rw [if_pos (by simp [*])]
                       intro K hK)
                    | (rename_i K hK)
                  go_simp
                all_goals exact hK _ _ rfl (Gr.rfl' _)
              · intro w4 hg
                rintro _ rfl _ rfl _ rfl _ rfl _ rfl _ rfl _ rfl _ rfl _ rfl _ rfl _ rfl
                simp only [finAll, Act.put, List.setIfInBounds_toArray, List.set_cons_succ, List.set_cons_zero, List.drop_succ_cons, List.drop_zero, List.take_zero]
                have nM4 : ¬ MutU P M vt' w.heap.size := fun h => by
                  rcases h with h | h | h
                  · omega
                  · omega
                  · exact own_ne hjs.out.sm.tro hb4.out h
                have nM5 : ¬ MutU P M vt' (w.heap.size + 1) := fun h => by
                  rcases h with h | h | h
                  · omega
                  · omega
                  · exact own_ne hjs.out.sm.tro hb5.out h
                have Hg4 := Lib.hid hg
                clear x0 x1 x2 x3 y0 y1 y2 y3 c0 c1 c2 c3 d0 d1 d2 d3 hg
                go_wp2_with fail
                refine (Hcall.out w4 Hg4.out).mono ?_
                rintro e w5 ⟨r, vt2, σ2, ρ2, new2, rfl, hj2, h1, h2⟩
                have hjt := Lib.hid ((hjs.out.gr Hg4.out).trans hj2)
                have hb42 : Hid (BlkTm w5 w.heap.size u) := Blk4.kp (Blk4.gr hb4.out Hg4.out) hj2.kp nM4
                have hb52 : Hid (BlkTm w5 (w.heap.size + 1) v) := Blk4.kp (Blk4.gr hb5.out Hg4.out) hj2.kp nM5
                have H2 := Lib.hid h2
                have Hth3 := Lib.hid hj2.th
                cases r with
                | true =>
                  have Hn2 := Lib.hid (Hnext.out ρ2 hj2.th (h1 rfl))
                  have Ht2 : Hid (∀ θ, Through θ ρ → T.map θ a.erase = T.map θ b.erase → Through θ ρ2) := fun θ ht he => (H2.out θ (hth.out θ ht he) (Hth2.out θ ht he)).2
                  clear h1 h2 hj2
                  go_wp2_with fail
                  go_roundg (u.l.length - (k + 1))
                  case measure => omega
                  case rel => exact ⟨k + 1, vt2, σ2, ρ2, new ++ new2, by omega, rfl, by go_num, hjt, Hn2, Ht2, hb42, hb52⟩
                | false =>
                  have Hno : Hid (∀ θ, Through θ ρ → T.map θ a.erase ≠ T.map θ b.erase) := fun θ ht he => nomatch (H2.out θ (hth.out θ ht he) (Hth2.out θ ht he)).1
                  clear h1 h2 hj2
                  go_wp2_with fail
                  exact HQ.out _ _ ⟨false, vt2, σ2, ρ2, new ++ new2, rfl, hjt.out, (fun h => nomatch h), fun θ ht he => absurd he (Hno.out θ ht)⟩
            · obtain rfl : k = u.l.length := by omega
              have Hfin : Hid (T.map ρ' a.erase = T.map ρ' b.erase) := (Hargs.out ρ' hjs.out.th).2 fun j h h' => heq.out j h h' h
              go_wp2_with fail
              exact HQ.out _ _ ⟨true, vt', σ', ρ', new, rfl, hjs.out, fun _ => Hfin.out, fun θ ht he => ⟨rfl, hth.out θ ht he⟩⟩
        · have hd : decide (u.k = v.k ∧ u.n = v.n ∧ u.s.toList = v.s.toList ∧ u.l.length = v.l.length) = false := decide_eq_false hh
          rw [hd]
          have Hdf := Lib.hid (heads_differ Wu.out Wv.out (by rw [Tm.erase_k]; exact Ku.out) (by rw [Tm.erase_k]; exact Kv.out) (fun h => hh (by
            obtain ⟨h1, h2, h3, h4⟩ := h
            rw [Tm.erase_k, Tm.erase_k] at h1
            rw [Tm.erase_n, Tm.erase_n] at h2
            refine ⟨h1, h2, ?_, ?_⟩
            · cases u; cases v; exact h3
            · cases u; cases v
              simp only [Tm.erase, T.l, Tm.eraseL_length] at h4
              exact h4)))
          clear hh hd
          go_wp2_with fail
          exact HQ.out _ _ (join_false HS.out HO.out gw2 Hdf.out)

theorem join_any {S : Nat → Prop} {B P M : Nat} {vm : Value} {mk : List Int} (U : Nat) : ∀ (N : Nat) (a b : Tm) (tr : List Int) (ρ : Int → T), a.erase.formed = true → b.erase.formed = true → 1099511627777 - tr.length ≤ U → T.sz (T.map ρ a.erase) + T.sz (T.map ρ b.erase) ≤ N → joinOf S B P M vm mk a b tr ρ := by
  induction U with
  | zero =>
    intro N
    induction N with
    | zero => intro a b tr ρ _ _ _ h; have := T.sz_pos (T.map ρ a.erase); omega
    | succ N ihN =>
      intro a b tr ρ fa fb hU hN
      refine join_step fa fb (fun x y fx fy tr' ρ' hlt => ?_) fun x y fx fy hlt => ihN x y tr ρ fx fy hU (by omega)
      intro w vt σ hs
      have := hs.len
      omega
  | succ U ihU =>
    intro N
    induction N with
    | zero => intro a b tr ρ _ _ _ h; have := T.sz_pos (T.map ρ a.erase); omega
    | succ N ihN =>
      intro a b tr ρ fa fb hU hN
      exact join_step fa fb (fun x y fx fy tr' ρ' hlt => ihU _ x y tr' ρ' fx fy (by omega) (Nat.le_refl _)) fun x y fx fy hlt => ihN x y tr ρ fx fy hU (by omega)
/-- The store's join. -/
theorem join_calls {S : Nat → Prop} {B : Nat} {w : World} {P M : Nat} {vt vm : Value} {σ : Int → Option T} {tr mk : List Int} {ρ : Int → T} (hs : SM S B w P M vt vm σ tr mk) (ho : StoreOk σ ρ) (a b : Tm) (ia : a.In w) (ib : b.In w) (oa : a.On S) (ob : b.On S) (fa : a.erase.formed = true) (fb : b.erase.formed = true) :
    Calls Tryz.prog 63 #[.pointer (some ⟨P, 0, none⟩), a.val, b.val] w (RetJoin S B P M vt vm σ tr mk ρ a.erase b.erase w) := join_any _ _ a b tr ρ fa fb (Nat.le_refl _) (Nat.le_refl _) w vt σ hs ho ia ib oa ob
end Go.Proofs.YtjdoflfdlhpbmaaGreat

namespace Go.Proofs.YtjdoflfdlhpbmaaGreat
open Go.RowKit Go.Maps Go.Lib

set_option maxRecDepth 100000 in
theorem GMap.delete {K : Type} {k : TypeId} {κ : K → Value} {w : World} {b : Nat} {f : K → Option Value} (h : GMap k κ w b f) (KK : Keyed Tryz.prog k) {t e : TypeId} (ty : TypeId) (ht : Tryz.prog.underlying t = some (.map k e)) {x : K} {l : Lit} (hx : keyOf Tryz.prog k (κ x) = some l) (hinj : ∀ y, κ y = κ x → y = x)
    {g : K → Option Value} (hg1 : g x = none) (hg2 : ∀ y, y ≠ x → g y = f y) :
    ∃ w', (Builtin.delete_ #[t, k] ty #[.map (some b), κ x]).run Tryz.prog w = .ok (.tuple #[]) w' ∧ GMap k κ w' b g ∧ w.grownBy w' (some b) := by
  obtain ⟨E, c, hb, hk, hn, hf⟩ := h
  rcases KK.find w hx E.toList hk with ⟨h1, h2⟩ | ⟨j, e0, h1, h2, h3⟩
  · refine ⟨ChangeMaps.setBlock w b (.map E c), ?_, ⟨E, c, ChangeMaps.heap_setBlock_same hb _, hk, hn, fun y v => ?_⟩, setBlock_grown hb _⟩
    · simp [Builtin.delete_, run_underlying ht, MapKept.run_getObj_map hb, KK.check w _ hx, h1, MapKept.run_setObj_map _ hb, Result.andThen, ChangeMaps.setBlock]
    · by_cases hy : y = x
      · subst hy
        rw [hg1]
        exact ⟨fun h => (by cases h), fun ⟨e, he, hek, _⟩ => absurd hek (h2 e he)⟩
      · rw [hg2 y hy]; exact hf y v
  · refine ⟨ChangeMaps.setBlock w b (.map (E.eraseIdxIfInBounds j) c), ?_, ⟨E.eraseIdxIfInBounds j, c, ChangeMaps.heap_setBlock_same hb _, ?_, ?_, fun y v => ?_⟩, setBlock_grown hb _⟩
    · simp [Builtin.delete_, run_underlying ht, MapKept.run_getObj_map hb, KK.check w _ hx, h1, MapKept.run_setObj_map _ hb, Result.andThen, ChangeMaps.setBlock]
    all_goals
      have hj : j < E.toList.length := (List.getElem?_eq_some_iff.1 h2).1
      have hE : (E.eraseIdxIfInBounds j).toList = E.toList.eraseIdx j := by
        rw [Array.eraseIdxIfInBounds, dif_pos (by simpa using hj), Array.toList_eraseIdx]
    · intro e he
      rw [hE] at he
      exact hk e (List.mem_of_mem_eraseIdx he)
    · rw [hE]
      exact List.Nodup.sublist (List.Sublist.map _ (List.eraseIdx_sublist _ _)) hn
    · rw [hE]
      have hkey : ∀ e ∈ E.toList.eraseIdx j, e.key ≠ κ x := by
        intro e he hek
        rw [List.mem_eraseIdx_iff_getElem?] at he
        obtain ⟨i, hi, hie⟩ := he
        have h5 : (E.toList.map (·.key))[i]? = some (κ x) := by rw [List.getElem?_map, hie]; simp [hek]
        have h6 : (E.toList.map (·.key))[j]? = some (κ x) := by rw [List.getElem?_map, h2]; simp [h3]
        obtain ⟨hil, h7⟩ := List.getElem?_eq_some_iff.1 h5
        obtain ⟨hjl, h8⟩ := List.getElem?_eq_some_iff.1 h6
        have hp := List.pairwise_iff_getElem.1 hn
        rcases Nat.lt_trichotomy i j with h | h | h
        · exact hp i j hil hjl h (h7.trans h8.symm)
        · exact hi h
        · exact hp j i hjl hil h (h8.trans h7.symm)
      by_cases hy : y = x
      · subst hy
        rw [hg1]
        exact ⟨fun h => (by cases h), fun ⟨e, he, hek, _⟩ => absurd hek (hkey e he)⟩
      · rw [hg2 y hy, hf y v]
        constructor
        · rintro ⟨e, he, hek, hev⟩
          refine ⟨e, ?_, hek, hev⟩
          rw [List.mem_eraseIdx_iff_getElem?]
          obtain ⟨i, hi, hie⟩ := List.getElem_of_mem he
          refine ⟨i, fun hij => ?_, by rw [List.getElem?_eq_getElem hi, hie]⟩
          subst hij
          rw [List.getElem?_eq_getElem hi, hie] at h2
          cases h2
          exact hy (hinj y (hek ▸ h3))
        · rintro ⟨e, he, hr⟩
          exact ⟨e, List.mem_of_mem_eraseIdx he, hr⟩

set_option maxRecDepth 100000 in
/-- A delete keeps when each entry was laid. -/
theorem GMap.deleteS {K : Type} {k : TypeId} {κ : K → Value} {w : World} {b : Nat} {f : K → Option Value} (h : GMap k κ w b f) (hs : Stm κ w b) (KK : Keyed Tryz.prog k) {t e : TypeId} (ty : TypeId) (ht : Tryz.prog.underlying t = some (.map k e)) {x : K} {l : Lit} (hx : keyOf Tryz.prog k (κ x) = some l) (hinj : ∀ y, κ y = κ x → y = x)
    {g : K → Option Value} (hg1 : g x = none) (hg2 : ∀ y, y ≠ x → g y = f y) :
    ∃ w', (Builtin.delete_ #[t, k] ty #[.map (some b), κ x]).run Tryz.prog w = .ok (.tuple #[]) w' ∧ GMap k κ w' b g ∧ w.grownBy w' (some b) ∧ Stm κ w' b := by
  obtain ⟨w1, hr1, hg, hgb⟩ := h.delete KK ty ht hx hinj hg1 hg2
  refine ⟨w1, hr1, hg, hgb, ?_⟩
  obtain ⟨E, c, hb, hk, hn, hf⟩ := h
  obtain ⟨E', c', hb', hst, hbn⟩ := hs
  rw [hb] at hb'
  cases hb'
  rcases KK.find w hx E.toList hk with ⟨h1, h2⟩ | ⟨j, e0, h1, h2, h3⟩
  · have hrun : (Builtin.delete_ #[t, k] ty #[.map (some b), κ x]).run Tryz.prog w = .ok (.tuple #[]) (ChangeMaps.setBlock w b (.map E c)) := by
      simp [Builtin.delete_, run_underlying ht, MapKept.run_getObj_map hb, KK.check w _ hx, h1, MapKept.run_setObj_map _ hb, Result.andThen, ChangeMaps.setBlock]
    rw [hr1] at hrun
    rw [(Result.ok.inj hrun).2]
    exact ⟨E, c, ChangeMaps.heap_setBlock_same hb _, hst, hbn⟩
  · have hrun : (Builtin.delete_ #[t, k] ty #[.map (some b), κ x]).run Tryz.prog w = .ok (.tuple #[]) (ChangeMaps.setBlock w b (.map (E.eraseIdxIfInBounds j) c)) := by
      simp [Builtin.delete_, run_underlying ht, MapKept.run_getObj_map hb, KK.check w _ hx, h1, MapKept.run_setObj_map _ hb, Result.andThen, ChangeMaps.setBlock]
    rw [hr1] at hrun
    rw [(Result.ok.inj hrun).2]
    have hj : j < E.toList.length := (List.getElem?_eq_some_iff.1 h2).1
    have hE : (E.eraseIdxIfInBounds j).toList = E.toList.eraseIdx j := by
      rw [Array.eraseIdxIfInBounds, dif_pos (by simpa using hj), Array.toList_eraseIdx]
    refine ⟨_, c, ChangeMaps.heap_setBlock_same hb _, fun e he => ?_, ?_⟩
    · rw [hE] at he
      exact hst e (List.mem_of_mem_eraseIdx he)
    · rw [hE]
      exact List.Nodup.sublist (List.Sublist.map _ (List.eraseIdx_sublist _ _)) hbn
end Go.Proofs.YtjdoflfdlhpbmaaGreat
