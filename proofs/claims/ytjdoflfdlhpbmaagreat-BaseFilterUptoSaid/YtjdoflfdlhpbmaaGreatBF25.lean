/-
  The store's bind.
  Two terms are joined in a store: what is known in the middle and at the end (plain).
  Slices of pairs.
  append of binds.
  hornref.place: a bind put where it belongs.
-/
import Derived.Test.YtjdoflfdlhpbmaaGreatBF24
import Derived.Deep.CutRange
import Derived.Test.YtjdoflfdlhpbmaaGreatBF19
import Derived.Test.YtjdoflfdlhpbmaaGreatBF20
import Derived.Test.YtjdoflfdlhpbmaaGreatBF06
namespace Go.Proofs.YtjdoflfdlhpbmaaGreat
open Go.RowKit Go.Maps Go.Lib

theorem own_kp {w w' : World} {B e sz n : Nat} {v : Value} {xs : List Value} {C : Nat → Prop} (h : w.ownsRow B e sz v n xs) (hk : Kp C w w') (hC : ∀ b, v.ownBlock = some b → ¬ C b) : w'.ownsRow B e sz v n xs := by
  refine ⟨h.1, h.2.imp id ?_⟩
  rintro ⟨g, cap, cur, rfl, h2, h3, h4⟩
  exact ⟨g, cap, cur, rfl, h2, by rw [hk.block g (Array.getElem?_eq_some_iff.1 h3).1 (hC g rfl)]; exact h3, h4⟩
theorem own_lt {w : World} {B e sz n : Nat} {v : Value} {xs : List Value} (h : w.ownsRow B e sz v n xs) {b : Nat} (hb : v.ownBlock = some b) : b < w.heap.size := by
  rcases h.2 with ⟨rfl, _⟩ | ⟨g, cap, cur, rfl, h2, h3, h4⟩
  · cases hb
  · cases hb
    exact (Array.getElem?_eq_some_iff.1 h3).1

/-- What a bind leaves. -/
def RetBind (S : Nat → Prop) (B P M : Nat) (vt vm : Value) (σ : Int → Option T) (tr mk : List Int) (ρ : Int → T) (n : Int) (t : T) (w : World) (e : Ending) (w' : World) : Prop :=
  (e = .returned (.bool false) ∧ t.k ≠ 1 ∧ T.occ n (T.map ρ t) ∧ Gr w w') ∨
  (e = .returned (.bool true) ∧ ¬ T.occ n (T.map ρ t) ∧ ∃ vt', SM S B w' P M vt' vm (putF σ n t) (tr ++ [n]) mk ∧ Kp (MutU P M vt) w w' ∧ ∀ b, vt'.ownBlock = some b → b < w.heap.size → vt.ownBlock = some b)

/-- The three writes of a bind. -/
theorem SM.bind {S : Nat → Prop} {B : Nat} {w w1 w2 : World} {P M : Nat} {vt vt' vm : Value} {σ : Int → Option T} {tr mk : List Int} {n : Int} {t : T} (h : SM S B w P M vt vm σ tr mk) (hn : σ n = none)
    (h1 : TMap S w1 M (fun x => if x = n then some t else σ x)) (g1 : w.grownBy w1 (some M)) (h2 : IntsOwn w2 B vt' (tr ++ [n])) (k2 : Kp (fun b => vt.ownBlock = some b) w1 w2) (hv : vt'.ownBlock = vt.ownBlock ∨ ∃ b, vt'.ownBlock = some b ∧ w.heap.size ≤ b) :
    SM S B (w2.setCell ⟨P, 1, none⟩ vt') P M vt' vm (putF σ n t) (tr ++ [n]) mk ∧ Kp (MutU P M vt) w (w2.setCell ⟨P, 1, none⟩ vt') := by
  have k1 : Kp (· = M) w w1 := Kp.of_grownBy g1 rfl
  have k3 : Kp (· = P) w2 (w2.setCell ⟨P, 1, none⟩ vt') := Kp.set rfl
  have kall : Kp (MutU P M vt) w (w2.setCell ⟨P, 1, none⟩ vt') := ((k1.mono fun b hb => .inr (.inl hb)).trans (k2.mono fun b hb => .inr (.inr hb))).trans (k3.mono fun b hb => .inl hb)
  have hP1 : BlkT w1 P 121 #[.map (some M), vt, vm] := h.blk.kp k1 h.nPM
  have hP2 : BlkT w2 P 121 #[.map (some M), vt, vm] := hP1.kp k2 h.nt.1
  have hsz : w.heap.size ≤ w2.heap.size := Nat.le_trans g1.size k2.size
  have hPl := h.blk.lt
  have hMl := h.map.lt
  have hvP : vt'.ownBlock ≠ some P := by
    rcases hv with hv | ⟨b, hv, hb⟩
    · rw [hv]; exact h.nt.1
    · rw [hv]; intro e; cases e; omega
  have hvM : vt'.ownBlock ≠ some M := by
    rcases hv with hv | ⟨b, hv, hb⟩
    · rw [hv]; exact h.nt.2
    · rw [hv]; intro e; cases e; omega
  refine ⟨⟨hP2.set 1 vt', ?_, ?_, ?_, ?_, ?_, ?_, h.nPM, ⟨hvP, hvM⟩, h.nm, ?_, ?_⟩, kall⟩
  · exact (h1.kp k2 h.nt.2 fun x hx => (h.sepS x hx).2.2.2.1).kp k3 (fun e => h.nPM e.symm) fun x hx => (h.sepS x hx).2.1
  · exact own_kp h2 k3 fun b hb e => by rw [e] at hb; exact hvP hb
  · exact own_kp h.mko kall fun b hb hm => by
      rcases hm with rfl | rfl | hm
      · exact h.nm.1 hb
      · exact h.nm.2 hb
      · exact h.ntm b hm hb
  · rw [List.nodup_append]
    refine ⟨h.trn, by simp, fun a ha b hb e => ?_⟩
    rw [List.mem_singleton] at hb
    subst hb
    subst e
    exact (h.tri a).1 ha hn
  · intro x
    rw [List.mem_append, List.mem_singleton, h.tri x, putF]
    by_cases hx : x = n
    · rw [if_pos hx]; simp [hx]
    · rw [if_neg hx]; simp [hx]
  · intro b hb
    obtain ⟨s1, s2, s3, s4, s5⟩ := h.sepS b hb
    refine ⟨by simp; omega, s2, s3, ?_, s5⟩
    rcases hv with hv | ⟨b', hv, hb'⟩
    · rw [hv]; exact s4
    · rw [hv]; intro e; cases e; omega
  · intro b hb
    rcases hv with hv | ⟨b', hv, hb'⟩
    · rw [hv] at hb; exact h.ntm b hb
    · rw [hv] at hb
      cases hb
      intro e
      have := own_lt h.mko e
      omega
  · have := h.bnd
    simp
    omega

set_option maxHeartbeats 1000000 in
set_option maxRecDepth 100000 in
theorem bind_calls {S : Nat → Prop} {B : Nat} {w : World} {P M : Nat} {vt vm : Value} {σ : Int → Option T} {tr mk : List Int} {ρ : Int → T} (hs : SM S B w P M vt vm σ tr mk) (ho : StoreOk σ ρ) (n : Int) (hn : σ n = none) (hr : 0 ≤ n ∧ n ≤ 1099511627776) (t : Tm) (ht : t.In w) (hon : t.On S) (hf : t.erase.formed = true) (hv : t.k = 1 → σ t.n = none ∧ t.n ≠ n) :
    Calls Tryz.prog 79 #[.pointer (some ⟨P, 0, none⟩), .int .i64 n, t.val] w (RetBind S B P M vt vm σ tr mk ρ n t.erase w) := by
  have HS := Lib.hid hs
  have HO := Lib.hid ho
  have Hn := Lib.hid hn
  have Hr := Lib.hid hr
  have Ht := Lib.hid ht
  have Hon := Lib.hid hon
  have Hf := Lib.hid hf
  have HSl : Hid (∀ b, S b → b < w.heap.size) := fun b hb => (hs.sepS b hb).1
  have hPl := hs.blk.lt
  have hMl := hs.map.lt
  have hlen := hs.len
  have hvar : Hid (t.k = 1 → ¬ T.occ n (T.map ρ t.erase)) := fun hk h => by
    have h1 := var_of_k hf (by rw [Tm.erase_k]; exact hk)
    rw [h1, T.map_var, Tm.erase_n, ho.free _ (hv hk).1, T.occ_var] at h
    exact (hv hk).2 h
  have hR1 : Hid (∀ w', t.k ≠ 1 → T.occ n (T.map ρ t.erase) → Gr w w' → RetBind S B P M vt vm σ tr mk ρ n t.erase w (.returned (.bool false)) w') := fun w' h1 h2 h3 => .inl ⟨rfl, by rw [Tm.erase_k]; exact h1, h2, h3⟩
  have hR2 : Hid (∀ vt' w', ¬ T.occ n (T.map ρ t.erase) → SM S B w' P M vt' vm (putF σ n t.erase) (tr ++ [n]) mk → Kp (MutU P M vt) w w' → (∀ b, vt'.ownBlock = some b → b < w.heap.size → vt.ownBlock = some b) → RetBind S B P M vt vm σ tr mk ρ n t.erase w (.returned (.bool true)) w') := fun vt' w' h1 h2 h3 h4 => .inr ⟨rfl, h1, vt', h2, h3, h4⟩
  generalize RetBind S B P M vt vm σ tr mk ρ n t.erase w = Q at hR1 hR2 ⊢
  have HR1 := hR1
  have HR2 := hR2
  clear hs ho hn hr ht hon hf hv hR1 hR2
  rw [show t.val = .agg #[.int .i64 t.k, .int .i64 t.n, .string t.s, .slice t.p t.l.length t.c] from rfl]
  go_enter Tryz.func79, Tryz.ntmps79
  try simp only [List.append_eq, List.cons_append, List.nil_append]
  go_upto_region 1 with fail
  have hB := Blk4.new w (.int .i64 t.k) (.int .i64 t.n) (.string t.s) (.slice t.p t.l.length t.c)
  have gA : Gr w (w.alloc (.cells #[.int .i64 t.k, .int .i64 t.n, .string t.s, .slice t.p t.l.length t.c] 24)) := by go_grown
  have sA : (w.alloc (.cells #[.int .i64 t.k, .int .i64 t.n, .string t.s, .slice t.p t.l.length t.c] 24)).heap.size = w.heap.size + 1 := World.size_alloc _ _
  generalize w.alloc (.cells #[.int .i64 t.k, .int .i64 t.n, .string t.s, .slice t.p t.l.length t.c] 24) = wA at *
  have HB := Lib.hid hB
  clear hB
  go_cut [15] from 7 to 15 (fun v wx => ∃ b : Bool, v = .bool b ∧ (b = true ↔ t.k ≠ 1 ∧ T.occ n (T.map ρ t.erase)) ∧ Gr wA wx)
  case first =>
    obtain ⟨⟨x0, x1, x2, x3⟩, _, _⟩ := HB.out.parts
    by_cases hk : t.k = 1
    · have hk2 : (t.k != 1) = false := by simp [hk]
      have Hk := Lib.hid hk
      clear hk
      go_wp2_with fail
      go_meet
      exact ⟨false, rfl, ⟨(fun h => nomatch h), fun h => absurd Hk.out h.1⟩, Gr.rfl' _⟩
    · have hk2 : (t.k != 1) = true := by simp [hk]
      have Hk := Lib.hid hk
      have hw := within_calls (HS.out.gr gA) HO.out n t (Tm.In_below gA Ht.out) Hon.out Hf.out
      rw [show t.val = .agg #[.int .i64 t.k, .int .i64 t.n, .string t.s, .slice t.p t.l.length t.c] from rfl] at hw
      have Hw := Lib.hid hw
      clear hk hw
      go_wp2_with fail
      refine Hw.out.mono ?_
      rintro e w1 ⟨b, rfl, hb, hg⟩
      have Hb := Lib.hid hb
      clear x0 x1 x2 x3 hb
      go_wp2_with fail
      go_meet
      exact ⟨b, rfl, ⟨fun h => ⟨Hk.out, Hb.out.1 h⟩, fun h => Hb.out.2 h.2⟩, hg⟩
  obtain ⟨b, rfl, hb, gc⟩ := hcut
  have gwc : Gr w wc := gA.trans gc
  cases b with
  | true =>
    have Hb := Lib.hid (hb.1 rfl)
    clear hb
    go_wp2_with fail
    exact HR1.out _ Hb.out.1 Hb.out.2 gwc
  | false =>
    have Hno : Hid (¬ T.occ n (T.map ρ t.erase)) := fun h => by
      by_cases hk : t.k = 1
      · exact hvar.out hk h
      · exact nomatch hb.2 ⟨hk, h⟩
    clear hb
    have hsm := HS.out.gr gwc
    have Hsm := Lib.hid hsm
    have hpb := hsm.blk.cell 0 (v := .map (some M)) rfl
    obtain ⟨⟨x0, x1, x2, x3⟩, _, _⟩ := (HB.out.gr gc).parts
    clear hsm
    go_upto_region 3 with fail
    refine wp_region_rely_tail 6 [fx (.pointer (some ⟨P, 0, none⟩)), fx (.pointer (some ⟨P, 0, none⟩)), fx (.pointer (some ⟨P, 0, none⟩)), fx (.map (some M)), fx (.int .i64 n), fx t.val]
      (by kernel_rfl) (by kernel_rfl) (by decide) (by repeat (first | exact Stable.nil | refine Stable.fix ?_)) ?_ ?_
    · refine ⟨?_, ?_, ?_, ?_, ?_, ?_, trivial⟩
      all_goals
        intro a wz hg hold
        have h0 : a.tmps[0]?.getD undef = .pointer (some ⟨P, 0, none⟩) := hold 0 rfl
        have h1 : a.tmps[1]?.getD undef = .int .i64 n := hold 1 rfl
        have h5 : a.tmps[5]?.getD undef = .pointer (some ⟨w.heap.size, 0, none⟩) := hold 5 rfl
        have zp := Gr.at hg hpb
        have z0 := Gr.at hg x0
        have z1 := Gr.at hg x1
        have z2 := Gr.at hg x2
        have z3 := Gr.at hg x3
        have Hg := Lib.hid hg
        clear hold hpb x0 x1 x2 x3
        simp [predsImp, Region.binds, dstAt, fx]
        intros
        first
          | (rw [if_pos (by simp [*])]
             intro K hK)
          | (rename_i K hK)
        go_simp
      all_goals exact hK _ _ rfl (Gr.rfl' _)
    · intro wz hg
      rintro _ rfl _ rfl _ rfl _ rfl _ rfl _ rfl
      simp only [finAll, Act.put, List.setIfInBounds_toArray, List.set_cons_succ, List.set_cons_zero, List.drop_succ_cons, List.drop_zero, List.take_zero]
      have gwz : Gr w wz := gwc.trans hg
      have hsz := Hsm.out.gr hg
      obtain ⟨w5, hup, hm5, hg5⟩ := hsz.map.store (fun x hx => (hsz.sepS x hx).2.2.1) Hr.out (Tm.In_below gwz Ht.out) Hf.out Hon.out
      have Hup := Lib.hid hup
      have Hm5 := Lib.hid hm5
      have Hg5 := Lib.hid hg5
      have Hsz := Lib.hid hsz
      have kM : Kp (· = M) wz w5 := Kp.of_grownBy hg5 rfl
      have hP5 : BlkT w5 P 121 #[.map (some M), vt, vm] := hsz.blk.kp kM hsz.nPM
      have htr5 : IntsOwn w5 B vt tr := own_kp hsz.tro kM (fun b hb e => hsz.nt.2 (e ▸ hb))
      have Htr5 := Lib.hid htr5
      have HP5 := Lib.hid hP5
      have hB5 : B ≤ w5.heap.size := Nat.le_trans hsz.bnd hg5.size
      have p1 := hP5.cell 1 (v := vt) rfl
      clear hpb x0 x1 x2 x3 hg hm5 hg5 hsz hP5 htr5
      have hs5 : wz.heap.size ≤ w5.heap.size := Hg5.out.size
      go_upto_region 5 with (first
        | (refine wpList_append_int rfl _ _ rfl rfl B vt tr n w5.heap.size 1 (by rfl) (by rfl) (Htr5.out.gr (by go_grown)) (by simp; omega) hlen ((BlkT.new w5 2 #[.int .i64 n]).cell 0 rfl) ?_
           intro v' w6 h2 h3 h4
           obtain ⟨pv, cv, rfl⟩ := h2.form
           have k6 : Kp (fun b => vt.ownBlock = some b) w5 w6 := (Kp.of_gr (show Gr w5 _ by go_grown)).trans (Kp.of_grown h3 (fun r h => h))
           have hP6 := HP5.out.kp k6 HS.out.nt.1
           have q1 := hP6.cell 1 (v := vt) rfl
           have qf := hP6.open_ 1
           have H2 := Lib.hid h2
           have H4 := Lib.hid h4
           clear h2 h3 h4 p1 hP6)
        | fail)
      obtain ⟨hfin, hkp⟩ := SM.bind Hsz.out Hn.out Hm5.out Hg5.out H2.out k6 (by
        rcases H4.out with h | h
        · exact .inl h
        · exact .inr ⟨_, h, by have : wz.heap.size ≤ (w5.alloc (.cells #[.int .i64 n] 2)).heap.size := (by simp; omega); exact this⟩)
      rw [show (tr ++ [n]).length = tr.length + 1 by simp] at hfin hkp
      have Hla : Hid (∀ b, (Value.slice pv (tr.length + 1) cv).ownBlock = some b → b < w.heap.size → vt.ownBlock = some b) := fun b hb hlt => by
        have h4 := H4.out
        rw [show (tr ++ [n]).length = tr.length + 1 by simp] at h4
        rcases h4 with h | h
        · rw [← h]; exact hb
        · rw [h] at hb
          cases hb
          have := gwz.size
          simp at hlt
          omega
      have Hfin := Lib.hid hfin
      have Hkp : Hid (Kp (MutU P M vt) w _) := (Kp.of_gr gwz).trans hkp
      clear hfin hkp q1 qf
      go_wp2_with fail
      exact HR2.out _ _ Hno.out Hfin.out Hkp.out Hla.out
end Go.Proofs.YtjdoflfdlhpbmaaGreat

namespace Go.Proofs.YtjdoflfdlhpbmaaGreat
open Go.RowKit Go.Maps Go.Lib

/-- How a store has gone on. -/
structure JS (S : Nat → Prop) (B P M : Nat) (vt vm : Value) (σ : Int → Option T) (tr mk : List Int) (ρ : Int → T) (w : World) (vt' : Value) (σ' : Int → Option T) (ρ' : Int → T) (new : List Int) (w' : World) : Prop where
  sm : SM S B w' P M vt' vm σ' (tr ++ new) mk
  ok : StoreOk σ' ρ'
  th : Through ρ' ρ
  fr : ∀ n, n ∈ new → σ n = none
  ke : ∀ n, n ∉ new → σ' n = σ n
  nl : new = [] → ρ' = ρ
  kp : Kp (MutU P M vt) w w'
  la : ∀ b, vt'.ownBlock = some b → b < w.heap.size → vt.ownBlock = some b

section
variable {S : Nat → Prop} {B P M : Nat} {vt vm : Value} {σ : Int → Option T} {tr mk : List Int} {ρ : Int → T} {w w1 w' : World} {vt1 vt' : Value} {σ1 σ' : Int → Option T} {ρ1 ρ' : Int → T} {new new' : List Int}
theorem JS.start (hs : SM S B w P M vt vm σ tr mk) (ho : StoreOk σ ρ) (hg : Gr w w') : JS S B P M vt vm σ tr mk ρ w vt σ ρ [] w' where
  sm := by rw [List.append_nil]; exact hs.gr hg
  ok := ho
  th := ho.canon.self
  fr n hn := nomatch hn
  ke n _ := rfl
  nl _ := rfl
  kp := Kp.of_gr hg
  la b hb _ := hb
theorem JS.gr (h : JS S B P M vt vm σ tr mk ρ w vt1 σ1 ρ1 new w1) (hg : Gr w1 w') : JS S B P M vt vm σ tr mk ρ w vt1 σ1 ρ1 new w' :=
  { h with sm := h.sm.gr hg, kp := h.kp.trans (Kp.of_gr hg) }
theorem JS.trans (h : JS S B P M vt vm σ tr mk ρ w vt1 σ1 ρ1 new w1) (k : JS S B P M vt1 vm σ1 (tr ++ new) mk ρ1 w1 vt' σ' ρ' new' w') : JS S B P M vt vm σ tr mk ρ w vt' σ' ρ' (new ++ new') w' where
  sm := by rw [← List.append_assoc]; exact k.sm
  ok := k.ok
  th := k.th.trans h.th
  fr n hn := by
    rcases List.mem_append.1 hn with hn | hn
    · exact h.fr n hn
    · by_cases hm : n ∈ new
      · exact h.fr n hm
      · rw [← h.ke n hm]; exact k.fr n hn
  ke n hn := by
    rw [List.mem_append] at hn
    rw [k.ke n fun h => hn (.inr h), h.ke n fun h => hn (.inl h)]
  nl hn := by
    obtain ⟨h1, h2⟩ := List.append_eq_nil_iff.1 hn
    rw [k.nl h2, h.nl h1]
  kp := ⟨k.kp.os.trans h.kp.os, k.kp.tape.trans h.kp.tape, k.kp.output.trans h.kp.output, Nat.le_trans h.kp.size k.kp.size, fun i hi hc => (k.kp.block i (Nat.lt_of_lt_of_le hi h.kp.size) fun hm => hc (hm.imp id fun hm => hm.imp id fun hm => h.la i hm hi)).trans (h.kp.block i hi hc)⟩
  la b hb hlt := h.la b (k.la b hb (Nat.lt_of_lt_of_le hlt h.kp.size)) hlt
end

/-- join's answer. -/
def RetJoin (S : Nat → Prop) (B P M : Nat) (vt vm : Value) (σ : Int → Option T) (tr mk : List Int) (ρ : Int → T) (a b : T) (w : World) (e : Ending) (w' : World) : Prop :=
  ∃ (r : Bool) (vt' : Value) (σ' : Int → Option T) (ρ' : Int → T) (new : List Int), e = .returned (.bool r) ∧ JS S B P M vt vm σ tr mk ρ w vt' σ' ρ' new w' ∧ (r = true → T.map ρ' a = T.map ρ' b) ∧ ∀ θ, Through θ ρ → T.map θ a = T.map θ b → r = true ∧ Through θ ρ'

theorem join_bind {S : Nat → Prop} {B P M : Nat} {vt vm : Value} {σ : Int → Option T} {tr mk : List Int} {ρ : Int → T} {w w2 w' : World} {e : Ending} {a b v : T} {x : Int} (hs : SM S B w P M vt vm σ tr mk) (ho : StoreOk σ ρ) (hg : Gr w w2)
    (hiff : ∀ θ, Through θ ρ → (T.map θ a = T.map θ b ↔ θ x = T.map θ v)) (hx : σ x = none) (hr : 0 ≤ x ∧ x ≤ 1099511627776) (hv : v.formed = true) (hlow : ∀ m, v = varT m → m < x) (hb : RetBind S B P M vt vm σ tr mk ρ x v w2 e w') :
    RetJoin S B P M vt vm σ tr mk ρ a b w e w' := by
  rcases hb with ⟨rfl, hk, hoc, hg2⟩ | ⟨rfl, hoc, vt', hsm, hkp, hla⟩
  · refine ⟨false, vt, σ, ρ, [], rfl, JS.start hs ho (hg.trans hg2), (fun h => nomatch h), fun θ ht he => ?_⟩
    have h1 := (hiff θ ht).1 he
    refine absurd ?_ (no_occ (θ := θ) (ho.canon.map hv) hoc ?_)
    · rw [ht.map]; exact h1.symm
    · intro e
      obtain ⟨z, hz, _⟩ := T.map_is_var e hv
      rw [hz] at hk
      exact hk rfl
  · have hok := ho.bind hx hr hv hoc hlow
    have hth := ho.bind_through (x := x) (t := v)
    have hsame := ho.bind_same hx hv hoc
    rw [T.map_var] at hsame
    refine ⟨true, vt', _, _, [x], rfl, ⟨hsm, hok, hth.1, fun n hn => ?_, fun n hn => ?_, (fun h => nomatch h), (Kp.of_gr hg).trans hkp, fun b hb hlt => hla b hb (Nat.lt_of_lt_of_le hlt hg.size)⟩, fun _ => (hiff _ hth.1).2 hsame, fun θ ht he => ⟨rfl, hth.2 θ ht ((hiff θ ht).1 he).symm⟩⟩
    · rw [List.mem_singleton] at hn
      subst hn; exact hx
    · rw [putF, if_neg fun e => hn (by rw [e]; simp)]
theorem join_true {S : Nat → Prop} {B P M : Nat} {vt vm : Value} {σ : Int → Option T} {tr mk : List Int} {ρ : Int → T} {w w' : World} {a b : T} (hs : SM S B w P M vt vm σ tr mk) (ho : StoreOk σ ρ) (hg : Gr w w') (he : T.map ρ a = T.map ρ b) :
    RetJoin S B P M vt vm σ tr mk ρ a b w (.returned (.bool true)) w' :=
  ⟨true, vt, σ, ρ, [], rfl, JS.start hs ho hg, fun _ => he, fun _ ht _ => ⟨rfl, ht⟩⟩
theorem join_false {S : Nat → Prop} {B P M : Nat} {vt vm : Value} {σ : Int → Option T} {tr mk : List Int} {ρ : Int → T} {w w' : World} {a b : T} (hs : SM S B w P M vt vm σ tr mk) (ho : StoreOk σ ρ) (hg : Gr w w') (he : ∀ θ, Through θ ρ → T.map θ a ≠ T.map θ b) :
    RetJoin S B P M vt vm σ tr mk ρ a b w (.returned (.bool false)) w' :=
  ⟨false, vt, σ, ρ, [], rfl, JS.start hs ho hg, (fun h => nomatch h), fun θ ht h => absurd h (he θ ht)⟩
/-- Heads that differ, of what the walks have come to. -/
theorem heads_differ {σ : Int → Option T} {ρ : Int → T} {a b u v : T} (ha : WalkTo σ ρ a u) (hb : WalkTo σ ρ b v) (hu : u.k ≠ 1) (hv : v.k ≠ 1) (hh : ¬ (u.k = v.k ∧ u.n = v.n ∧ u.s = v.s ∧ u.l.length = v.l.length)) : ∀ θ, Through θ ρ → T.map θ a ≠ T.map θ b := fun θ ht he => by
  rw [← ht.map a, ← ha.same, ht.map, ← ht.map b, ← hb.same, ht.map] at he
  obtain ⟨k, n, s, l⟩ := u
  obtain ⟨k', n', s', l'⟩ := v
  simp only [T.k, T.n, T.s, T.l] at hu hv hh
  rw [T.map, T.map, if_neg hu, if_neg hv] at he
  by_cases h4 : k = 4
  · rw [if_pos h4] at he
    by_cases h5 : k' = 4
    · rw [if_pos h5] at he
      injection he with e1 e2 e3 e4
      have e5 := congrArg List.length e4
      rw [T.mapL_length, T.mapL_length] at e5
      exact hh ⟨e1, e2, e3, e5⟩
    · rw [if_neg h5] at he
      injection he with e1
      exact h5 (e1.symm.trans h4)
  · rw [if_neg h4] at he
    by_cases h5 : k' = 4
    · rw [if_pos h5] at he
      injection he with e1
      exact h4 (e1.trans h5)
    · rw [if_neg h5] at he
      injection he with e1 e2 e3
      rcases formed_args ha.form with ⟨h6, _⟩ | ⟨_, h7⟩
      · exact h4 h6
      rcases formed_args hb.form with ⟨h6, _⟩ | ⟨_, h8⟩
      · exact h5 h6
      exact hh ⟨e1, e2, e3, by rw [h7, h8]⟩
/-- Heads that are the same: the terms are the same just if the arguments are. -/
theorem args_same {σ : Int → Option T} {ρ : Int → T} {a b : T} {u v : Tm} (ha : WalkTo σ ρ a u.erase) (hb : WalkTo σ ρ b v.erase) (hu : u.k ≠ 1) (hh : u.k = v.k ∧ u.n = v.n ∧ u.s.toList = v.s.toList ∧ u.l.length = v.l.length) (θ : Int → T) (ht : Through θ ρ) :
    T.map θ a = T.map θ b ↔ ∀ (j : Nat) (h : j < u.l.length) (h' : j < v.l.length), T.map θ u.l[j].erase = T.map θ v.l[j].erase := by
  rw [← ht.map a, ← ha.same, ht.map, ← ht.map b, ← hb.same, ht.map]
  have hfa := ha.form
  have hfb := hb.form
  obtain ⟨k, n, s, p, c, l⟩ := u
  obtain ⟨k', n', s', p', c', l'⟩ := v
  simp only [Tm.k, Tm.n, Tm.s, Tm.l] at hu hh ⊢
  obtain ⟨rfl, rfl, hs, hl⟩ := hh
  rw [Tm.erase, Tm.erase, T.map, T.map, if_neg hu, if_neg hu, hs]
  by_cases h4 : k = 4
  · rw [if_pos h4, if_pos h4]
    rw [T.mk.injEq]
    simp only [true_and]
    rw [T.mapL_eq, T.mapL_eq]
    constructor
    · intro h j hj hj'
      have h9 : (List.map (T.map θ) (Tm.eraseL l))[j]? = (List.map (T.map θ) (Tm.eraseL l'))[j]? := by rw [h]
      rw [List.getElem?_map, List.getElem?_map, List.getElem?_eq_getElem (by rw [Tm.eraseL_length]; exact hj), List.getElem?_eq_getElem (by rw [Tm.eraseL_length]; exact hj'), eraseL_getElem l j hj, eraseL_getElem l' j hj'] at h9
      exact Option.some.inj h9
    · intro h
      apply List.ext_getElem
      · rw [List.length_map, List.length_map, Tm.eraseL_length, Tm.eraseL_length, hl]
      · intro j h1 h2
        rw [List.length_map, Tm.eraseL_length] at h1 h2
        rw [List.getElem_map, List.getElem_map, eraseL_getElem l j h1, eraseL_getElem l' j h2]
        exact h j h1 h2
  · rw [if_neg h4, if_neg h4]
    rcases formed_args hfa with ⟨h5, _⟩ | ⟨_, h5⟩
    · exact absurd h5 h4
    · have h6 := congrArg List.length h5
      rw [Tm.eraseL_length] at h6
      have h7 : l = [] := List.eq_nil_of_length_eq_zero h6
      subst h7
      simp
end Go.Proofs.YtjdoflfdlhpbmaaGreat

namespace Go.Proofs.YtjdoflfdlhpbmaaGreat
open Go.ChangeShapes Go.WideShapes Go.ChangeAt Go.RowKit Go.Deep

section
variable {H : Type} {enc : TypeId × Value → H} {W : World}

/-- A pair with its addresses. -/
structure Pr where
  a : Tm
  b : Tm

def Pr.cells (x : Pr) : List Value := x.a.cells ++ x.b.cells
def Pr.row (w : World) (b o : Nat) (l : List Pr) : Prop :=
  ∀ (i : Nat) (x : Pr), l[i]? = some x →
    (w.cell? ⟨b, o + i * 8, none⟩ = some (.int .i64 x.a.k) ∧ w.cell? ⟨b, o + i * 8 + 1, none⟩ = some (.int .i64 x.a.n) ∧
    w.cell? ⟨b, o + i * 8 + 2, none⟩ = some (.string x.a.s) ∧ w.cell? ⟨b, o + i * 8 + 3, none⟩ = some (.slice x.a.p x.a.l.length x.a.c)) ∧
    (w.cell? ⟨b, o + i * 8 + 4, none⟩ = some (.int .i64 x.b.k) ∧ w.cell? ⟨b, o + i * 8 + 4 + 1, none⟩ = some (.int .i64 x.b.n) ∧
    w.cell? ⟨b, o + i * 8 + 4 + 2, none⟩ = some (.string x.b.s) ∧ w.cell? ⟨b, o + i * 8 + 4 + 3, none⟩ = some (.slice x.b.p x.b.l.length x.b.c))

/-- A slice of pairs. -/
structure Prs where
  p : Option Addr
  c : Nat
  l : List Pr
def Prs.val (x : Prs) : Value := .slice x.p x.l.length x.c
def Prs.In (w : World) (x : Prs) : Prop :=
  x.l.length ≤ x.c ∧ (x.l.length * 112 ≤ 140737488351232 ∧ x.c ≤ 9223372036854775807) ∧ (x.l = [] ∨ ∃ b o, x.p = some ⟨b, o, none⟩ ∧ Pr.row w b o x.l) ∧ ∀ y ∈ x.l, y.a.In w ∧ y.b.In w

theorem Pr.row_lt {w : World} {b o : Nat} {l : List Pr} (h : Pr.row w b o l) (hl : l ≠ []) : b < w.heap.size := by
  cases l with
  | nil => exact absurd rfl hl
  | cons x xs => exact World.block_lt_of_cell? _ _ (h 0 x rfl).1.1
theorem Prs.In.mono {w w' : World} {x : Prs} (h : x.In w) (hg : Gr w w') : x.In w' := by
  obtain ⟨h1, h2, h3, h4⟩ := h
  refine ⟨h1, h2, ?_, fun y hy => ⟨Tm.In_below hg (h4 y hy).1, Tm.In_below hg (h4 y hy).2⟩⟩
  rcases h3 with h3 | ⟨b, o, hp, hr⟩
  · exact .inl h3
  · by_cases hl : x.l = []
    · exact .inl hl
    · refine .inr ⟨b, o, hp, fun i y hy => ?_⟩
      have hlt := Pr.row_lt hr hl
      have hs : ∀ o', w'.cell? ⟨b, o', none⟩ = w.cell? ⟨b, o', none⟩ := fun o' => hg.cell (p := ⟨b, o', none⟩) hlt
      have := hr i y hy
      simpa only [hs] using this
theorem Prs.In.elem {w : World} {b o : Nat} {c : Nat} {l : List Pr} (h : (Prs.mk (some ⟨b, o, none⟩) c l).In w) (i : Nat) (hi : i < l.length) :
    ((w.cell? ⟨b, o + i * 8, none⟩ = some (.int .i64 l[i].a.k) ∧ w.cell? ⟨b, o + i * 8 + 1, none⟩ = some (.int .i64 l[i].a.n) ∧
    w.cell? ⟨b, o + i * 8 + 2, none⟩ = some (.string l[i].a.s) ∧ w.cell? ⟨b, o + i * 8 + 3, none⟩ = some (.slice l[i].a.p l[i].a.l.length l[i].a.c)) ∧
    (w.cell? ⟨b, o + i * 8 + 4, none⟩ = some (.int .i64 l[i].b.k) ∧ w.cell? ⟨b, o + i * 8 + 4 + 1, none⟩ = some (.int .i64 l[i].b.n) ∧
    w.cell? ⟨b, o + i * 8 + 4 + 2, none⟩ = some (.string l[i].b.s) ∧ w.cell? ⟨b, o + i * 8 + 4 + 3, none⟩ = some (.slice l[i].b.p l[i].b.l.length l[i].b.c))) ∧
    (l[i].a.In w ∧ l[i].b.In w) ∧ b < w.heap.size := by
  obtain ⟨_, _, h3, h4⟩ := h
  rcases h3 with rfl | ⟨b', o', hp, hr⟩
  · simp at hi
  · cases hp
    exact ⟨hr i l[i] (List.getElem?_eq_getElem hi), h4 _ (List.getElem_mem hi), Pr.row_lt hr (by rintro rfl; simp at hi)⟩
theorem Prs.In.ptr {w : World} {p : Option Addr} {c : Nat} {l : List Pr} (h : (Prs.mk p c l).In w) (hl : 0 < l.length) : ∃ b o, p = some ⟨b, o, none⟩ := by
  obtain ⟨_, _, h3, _⟩ := h
  rcases h3 with rfl | ⟨b', o', hp, _⟩
  · simp at hl
  · exact ⟨b', o', hp⟩

end

/-- The pairs without addresses. -/
def seePrs (l : List Pr) : List (T × T) := l.map fun y => (y.a.erase, y.b.erase)
end Go.Proofs.YtjdoflfdlhpbmaaGreat

namespace Go.Proofs.YtjdoflfdlhpbmaaGreat
open Go.RowKit Go.Maps Go.Lib

theorem append_bds (w : World) (B : Nat) (v : Value) (l : List Bd) (p : Option Addr) (c : Nat) (s : List Bd) (hs : (Bds.mk p c s).In w) (h : BuiltBds w B v l) (hB : B ≤ w.heap.size) (hl : (l.length + s.length) * 64 ≤ 140737488351232) :
    ∃ v' w', (Builtin.append_ #[48, 48] 48 #[v, .slice p s.length c]).run Tryz.prog w = .ok v' w' ∧ BuiltBds w' B v' (l ++ s) ∧ w.grownBy w' v.ownBlock ∧ (v'.ownBlock = v.ownBlock ∨ v'.ownBlock = some w.heap.size) := by
  obtain ⟨i0, hi, hz0, hz1, hz2⟩ := info_parts infoBd
  by_cases h0 : s = []
  · subst h0
    rcases h.2 with ⟨rfl, h1⟩ | ⟨g, cap, cur, rfl, hg0, hg, hnc, hr⟩
    · refine ⟨_, w, run_append_empty w _ _ _ i0 Tryz.underlying48 hi none 0 0 p c (Nat.le_refl _), by simpa using h, ⟨rfl, rfl, rfl, Nat.le_refl _, fun _ _ _ => rfl⟩, .inl rfl⟩
    · refine ⟨_, w, run_append_empty w _ _ _ i0 Tryz.underlying48 hi _ l.length cap p c hnc, by simpa using h, ⟨rfl, rfl, rfl, Nat.le_refl _, fun _ _ _ => rfl⟩, .inl rfl⟩
  · have hpos : 0 < s.length := List.length_pos_iff.2 h0
    obtain ⟨b, o, rfl⟩ := hs.ptr hpos
    obtain ⟨v', w', hr, h2, h3, h4⟩ := run_append_own_fresh (P := Tryz.prog) w B 48 48 96 i0 _ 5 64 Tryz.underlying48 hi hz0 hz1 hz2 rfl (by decide) v l.length (l.flatMap Bd.cells) h
      ⟨b, o, none⟩ s.length c (s.flatMap Bd.cells) (bdcells_len s) (by
        intro j u hu
        rw [Go.WideShapes.add_plain]
        have hj : j < s.length * 5 := by have := (List.getElem?_eq_some_iff.1 hu).1; rwa [bdcells_len] at this
        have hi' : j / 5 < s.length := by omega
        obtain ⟨⟨c0, c1, c2, c3, c4⟩, _⟩ := hs.elem (j / 5) hi'
        have h5 := bdcells_at (List.getElem?_eq_getElem hi') (j % 5) (by omega)
        rw [show j / 5 * 5 + j % 5 = j by omega, hu] at h5
        rw [show o + j = o + j / 5 * 5 + j % 5 by omega]
        have hm : j % 5 < 5 := by omega
        match hj5 : j % 5, hm with
        | 0, _ => rw [hj5] at h5; rw [h5]; exact c0
        | 1, _ => rw [hj5] at h5; rw [h5]; exact c1
        | 2, _ => rw [hj5] at h5; rw [h5]; exact c2
        | 3, _ => rw [hj5] at h5; rw [h5]; exact c3
        | 4, _ => rw [hj5] at h5; rw [h5]; exact c4) (by
        intro u hu
        obtain ⟨y, hy, hu⟩ := List.mem_flatMap.1 hu
        simp only [Bd.cells, Tm.cells, List.mem_cons, List.mem_nil_iff, or_false] at hu
        rcases hu with rfl | rfl | rfl | rfl | rfl <;> rfl) (by simp only [maxLen]; omega) (by omega) hB (by omega)
    refine ⟨v', w', hr, ?_, h3, h4⟩
    show w'.ownsRow B _ 5 v' _ _
    rw [List.length_append, List.flatMap_append]
    exact h2
end Go.Proofs.YtjdoflfdlhpbmaaGreat

namespace Go.Proofs.YtjdoflfdlhpbmaaGreat
open Go.RowKit Go.Maps Go.Lib

theorem Bds.In.drop {w : World} {b o c : Nat} {l : List Bd} (h : (Bds.mk (some ⟨b, o, none⟩) c l).In w) (k : Nat) (hk : k ≤ l.length) : (Bds.mk (some ⟨b, o + k * 5, none⟩) (c - k) (l.drop k)).In w := by
  obtain ⟨h1, h2, h3, h4⟩ := h
  simp only at h1 h2
  refine ⟨by simp only [List.length_drop]; omega, ⟨by simp only [List.length_drop]; omega, by simp only; omega⟩, ?_, fun y hy => h4 y (List.mem_of_mem_drop hy)⟩
  rcases h3 with h3 | ⟨b', o', hp, hr⟩
  · simp only at h3
    subst h3
    exact .inl (List.drop_nil)
  · cases hp
    refine .inr ⟨b, o + k * 5, rfl, fun i x hx => ?_⟩
    rw [List.getElem?_drop] at hx
    have := hr (k + i) x hx
    rw [show o + (k + i) * 5 = o + k * 5 + i * 5 by omega] at this
    exact this

/-- place hands back the list with the bind where it belongs. -/
def RetPlace (l : List Bd) (w : World) (e : Ending) (w' : World) : Prop := ∃ p c, e = .returned (.slice p l.length c) ∧ (Bds.mk p c l).In w' ∧ Gr w w'

set_option maxHeartbeats 1000000 in
set_option maxRecDepth 100000 in
theorem place_walk (p : Option Addr) (c : Nat) (s : List Bd) (n : Int) (t : Tm) (w : World) (hs : (Bds.mk p c s).In w) (ht : t.In w) (hn : In64 n) (hlen : (s.length + 1) * 64 ≤ 140737488351232) :
    Calls Tryz.prog 78 #[.slice p s.length c, .int .i64 n, t.val] w (RetPlace (placeL s ⟨n, t⟩) w) := by
  have HS := Lib.hid hs
  have Ht := Lib.hid ht
  clear hs ht
  have hQ0 : Hid (∀ (k : Nat) (v : Value) (w' : World), k ≤ s.length → (∀ (j : Nat) (h : j < s.length), j < k → s[j].v < n) → (∀ (h : k < s.length), ¬ s[k].v < n) → BuiltBds w' (w.heap.size + 1) v (s.take k ++ [⟨n, t⟩] ++ s.drop k) → Gr w w' → RetPlace (placeL s ⟨n, t⟩) w (.returned v) w') := by
    intro k v w' h1 h2 h3 h4 h5
    have he : s.take k ++ [(⟨n, t⟩ : Bd)] ++ s.drop k = placeL s ⟨n, t⟩ := by
      rw [placeL_at ⟨n, t⟩ s k h1 h2 h3, List.append_assoc]; rfl
    rw [he] at h4
    obtain ⟨p, c, rfl, h6⟩ := h4.bds (by rw [placeL_length]; exact hlen) fun y hy => by
      rcases (placeL_mem _ _ _).1 hy with rfl | hy
      · exact ⟨Tm.In_below h5 Ht.out, hn⟩
      · have := (HS.out.mono h5).2.2.2 y hy
        exact this
    exact ⟨p, c, rfl, h6, h5⟩
  generalize RetPlace (placeL s ⟨n, t⟩) w = Q at hQ0 ⊢
  have HQ := hQ0
  clear hQ0
  have Htv := Lib.hid (show t.val = .agg #[.int .i64 t.k, .int .i64 t.n, .string t.s, .slice t.p t.l.length t.c] from rfl)
  rw [Htv.out]
  go_enter Tryz.func78, Tryz.ntmps78
  try simp only [List.append_eq, List.cons_append, List.nil_append]
  go_upto_region 1 with fail
  have hB := BlkT.new w 24 #[.int .i64 t.k, .int .i64 t.n, .string t.s, .slice t.p t.l.length t.c]
  have gA : Gr w (w.alloc (.cells #[.int .i64 t.k, .int .i64 t.n, .string t.s, .slice t.p t.l.length t.c] 24)) := by go_grown
  have hA : w.heap.size + 1 ≤ (w.alloc (.cells #[.int .i64 t.k, .int .i64 t.n, .string t.s, .slice t.p t.l.length t.c] 24)).heap.size := by simp
  generalize w.alloc (.cells #[.int .i64 t.k, .int .i64 t.n, .string t.s, .slice t.p t.l.length t.c] 24) = wA at *
  have HB := Lib.hid hB
  clear hB
  go_wp2_with fail
  go_loopg [7, 8] s.length (fun m v i wr => ∃ k : Nat, k ≤ s.length ∧ m = s.length - k ∧ i = .int .i64 k ∧ BuiltBds wr (w.heap.size + 1) v (s.take k) ∧ Below (w.heap.size + 1) wA wr ∧ Hid (∀ (j : Nat) (h : j < s.length), j < k → s[j].v < n))
  case atStart => exact ⟨0, Nat.zero_le _, rfl, rfl, World.ownsRow_nil _ _ _ 5, Below.refl _ _, fun j _ h => absurd h (Nat.not_lt_zero j)⟩
  case round =>
    obtain ⟨k, hk, rfl, rfl, hrow, hbl, hpre⟩ := hrel
    have Hrow := Lib.hid hrow
    clear hrow
    have gr : Gr w _ := Below.trans gA (Below.mono hbl (Nat.le_succ _))
    have hsz := Nat.le_trans hA hbl.size
    by_cases hlt : k < s.length
    · obtain ⟨b, o, rfl⟩ := HS.out.ptr (by omega)
      obtain ⟨⟨c0, c1, c2, c3, c4⟩, hti, ⟨hv1, hv2⟩, hbl0⟩ := (HS.out.mono gr).elem k hlt
      by_cases hv : s[k].v < n
      · have Hstep := Lib.hid (show ∀ (j : Nat) (h : j < s.length), j < k + 1 → s[j].v < n from fun j h hj => by
          rcases Nat.lt_or_ge j k with h1 | h1
          · exact hpre.out j h h1
          · obtain rfl : j = k := by omega
            exact hv)
        have Htk := Lib.hid (show s.take (k + 1) = s.take k ++ [s[k]] from List.take_succ_eq_append_getElem hlt)
        have htl : ((s.take k).length + 1) * 64 ≤ 140737488351232 := by rw [List.length_take]; omega
        generalize s[k] = y at *
        go_wp2_with (first
          | (refine wpList_append_bd rfl _ _ rfl rfl (w.heap.size + 1) _ (s.take k) y wr.heap.size 1 (by rfl) (by rfl) (Hrow.out.gr (by go_grown)) (by simp; omega) htl (BlkT.new wr _ _) ?_
             intro v' w4 h2 h3 h4)
          | fail)
        go_roundg (s.length - (k + 1))
        case measure => omega
        case rel => exact ⟨k + 1, by omega, rfl, by go_num, by rw [Htk.out]; exact h2, Below.trans hbl (Below.trans (Below.mono (show Gr wr _ by go_grown) hsz) (grownBy_below h3 (by simp; omega) fun b hb => Hrow.out.ge hb)), Hstep⟩
      · have HX := Lib.hid (BlkT.gr (HB.out) (show Gr wA wA from Gr.rfl' _))
        have htl : ((s.take k).length + 1) * 64 ≤ 140737488351232 := by rw [List.length_take]; omega
        have hx : BlkT wr w.heap.size 24 #[.int .i64 t.k, .int .i64 t.n, .string t.s, .slice t.p t.l.length t.c] := (hbl.block _ (Nat.lt_succ_self _)).trans HB.out
        have x0 := hx.cell 0 (v := .int .i64 t.k) rfl
        have x1 := hx.cell 1 (v := .int .i64 t.n) rfl
        have x2 := hx.cell 2 (v := .string t.s) rfl
        have x3 := hx.cell 3 (v := .slice t.p t.l.length t.c) rfl
        clear HX hx
        have Hend := Lib.hid (show ∀ (v : Value) (w' : World), BuiltBds w' (w.heap.size + 1) v (s.take k ++ [⟨n, t⟩] ++ s.drop k) → Gr w w' → Q (.returned v) w' from fun v w' h1 h2 => HQ.out k v w' hk hpre.out (fun _ => by omega) h1 h2)
        have hcl : s.length ≤ c := HS.out.1
        generalize s[k] = y at *
        go_upto_region 7 with (first
          | (refine wpList_append_bd rfl _ _ rfl rfl (w.heap.size + 1) _ (s.take k) ⟨n, t⟩ wr.heap.size 1 (by rfl) (by rfl) (Hrow.out.gr (by go_grown)) (by simp; omega) htl (BlkT.new wr _ _) ?_
             intro v' w4 h2 h3 h4)
          | fail)
        have g4 : Below (w.heap.size + 1) wr w4 := Below.trans (Below.mono (show Gr wr _ by go_grown) hsz) (grownBy_below h3 (by simp; omega) fun b hb => Hrow.out.ge hb)
        have gw4 : Gr w w4 := Below.trans gr (Below.mono g4 (Nat.le_succ _))
        obtain ⟨v5, w5, hr5, hb5, hg5, ho5⟩ := append_bds w4 (w.heap.size + 1) v' (s.take k ++ [⟨n, t⟩]) _ _ _ ((HS.out.mono gw4).drop k hk) h2 (Nat.le_trans hsz g4.size) (by simp; omega)
        rw [List.length_drop] at hr5
        have Hr5 := Lib.hid hr5
        have Hb5 := Lib.hid hb5
        have gw5 := Lib.hid (show Gr w w5 from Below.trans gw4 (Below.mono (grownBy_below hg5 (Nat.le_trans hsz g4.size) fun b hb => h2.ge hb) (Nat.le_succ _)))
        clear hr5 hb5 hg5 ho5 h2 h3 h4 x0 x1 x2 x3 c0 c1 c2 c3 c4
        go_wp2_with (first
          | (refine wpList_append_run _ rfl _ _ _ _ rfl _ _ (by rfl) (by rfl) _ _ Hr5.out ?_)
          | fail)
        exact Hend.out _ _ Hb5.out gw5.out
    · obtain rfl : k = s.length := by omega
      have htl : ((s.take s.length).length + 1) * 64 ≤ 140737488351232 := by rw [List.length_take]; omega
      have hx : BlkT wr w.heap.size 24 #[.int .i64 t.k, .int .i64 t.n, .string t.s, .slice t.p t.l.length t.c] := (hbl.block _ (Nat.lt_succ_self _)).trans HB.out
      have x0 := hx.cell 0 (v := .int .i64 t.k) rfl
      have x1 := hx.cell 1 (v := .int .i64 t.n) rfl
      have x2 := hx.cell 2 (v := .string t.s) rfl
      have x3 := hx.cell 3 (v := .slice t.p t.l.length t.c) rfl
      clear hx
      have Hend := Lib.hid (show ∀ (v : Value) (w' : World), BuiltBds w' (w.heap.size + 1) v (s.take s.length ++ [⟨n, t⟩] ++ s.drop s.length) → Gr w w' → Q (.returned v) w' from fun v w' h1 h2 => HQ.out s.length v w' hk hpre.out (fun h => by omega) h1 h2)
      have hcl : s.length ≤ c := HS.out.1
      go_upto_region 7 with (first
        | (refine wpList_append_bd rfl _ _ rfl rfl (w.heap.size + 1) _ (s.take s.length) ⟨n, t⟩ wr.heap.size 1 (by rfl) (by rfl) (Hrow.out.gr (by go_grown)) (by simp; omega) htl (BlkT.new wr _ _) ?_
           intro v' w4 h2 h3 h4)
        | fail)
      have g4 : Below (w.heap.size + 1) wr w4 := Below.trans (Below.mono (show Gr wr _ by go_grown) hsz) (grownBy_below h3 (by simp; omega) fun b hb => Hrow.out.ge hb)
      have gw4 : Gr w w4 := Below.trans gr (Below.mono g4 (Nat.le_succ _))
      have hany : ∀ x : Option Addr × Nat, ∃ r : Value × World, x.2 ≤ 9223372036854775807 → (Builtin.append_ #[48, 48] 48 #[v', .slice x.1 0 x.2]).run Tryz.prog w4 = .ok r.1 r.2 ∧ Q (.returned r.1) r.2 := fun ⟨p', c'⟩ => by
        by_cases hc' : c' ≤ 9223372036854775807
        · obtain ⟨v5, w5, hr5, hb5, hg5, ho5⟩ := append_bds w4 (w.heap.size + 1) v' (s.take s.length ++ [⟨n, t⟩]) p' c' [] ⟨Nat.zero_le _, ⟨by simp, hc'⟩, .inl rfl, fun y hy => nomatch hy⟩ h2 (Nat.le_trans hsz g4.size) (by simp; omega)
          exact ⟨(v5, w5), fun _ => ⟨hr5, Hend.out _ _ (by rw [List.drop_length]; exact hb5) (Below.trans gw4 (Below.mono (grownBy_below hg5 (Nat.le_trans hsz g4.size) fun b hb => h2.ge hb) (Nat.le_succ _)))⟩⟩
        · exact ⟨(v', w4), fun h => absurd h hc'⟩
      obtain ⟨F, hF⟩ := Classical.skolem.1 hany
      have HF := Lib.hid (show ∀ p' c', c' ≤ 9223372036854775807 → (Builtin.append_ #[48, 48] 48 #[v', .slice p' 0 c']).run Tryz.prog w4 = .ok (F (p', c')).1 (F (p', c')).2 ∧ Q (.returned (F (p', c')).1) (F (p', c')).2 from fun p' c' => hF (p', c'))
      have hcm := HS.out.2.1.2
      simp only at hcm
      clear h2 h3 h4 x0 x1 x2 x3 hany hF
      cases p with
      | none =>
        go_wp2_with (first
          | (refine wpList_append_run _ rfl _ _ _ _ rfl _ _ (by rfl) (by rfl) _ _ (HF.out _ _ (by omega)).1 ?_)
          | fail)
        exact (HF.out _ _ (by omega)).2
      | some a =>
        by_cases hc : c = s.length
        · have hc0 : (c - s.length = 0) := by omega
          go_wp2_with (first
            | (refine wpList_append_run _ rfl _ _ _ _ rfl _ _ (by rfl) (by rfl) _ _ (HF.out _ _ (by omega)).1 ?_)
            | fail)
          exact (HF.out _ _ (by omega)).2
        · have hc0 : ¬ (c - s.length = 0) := by omega
          go_wp2_with (first
            | (refine wpList_append_run _ rfl _ _ _ _ rfl _ _ (by rfl) (by rfl) _ _ (HF.out _ _ (by omega)).1 ?_)
            | fail)
          exact (HF.out _ _ (by omega)).2
end Go.Proofs.YtjdoflfdlhpbmaaGreat
