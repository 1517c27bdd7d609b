/-
  The store's Unify and Mark.
  hornkeep.thereUnify.
  hornref.SameBinds of two lists that say the same.
-/
import Derived.Test.YtmecghjnghhhkaaUO27
import Derived.Test.YtmecghjnghhhkaaUO14
import Derived.Test.YtmecghjnghhhkaaUO04
namespace Go.Proofs.Ytmecghjnghhhkaa
open Go.RowKit Go.Maps Go.Lib

/-- What Unify leaves: the terms may lie in more blocks now. -/
def RetSU (S : Nat → Prop) (B P M : Nat) (vt vm : Value) (σ : Int → Option T) (tr mk : List Int) (ρ : Int → T) (a b : T) (w : World) (e : Ending) (w' : World) : Prop :=
  ((a.formed && b.formed) = false ∧ e = .returned (.tuple #[.bool false, .int .i64 2]) ∧ Gr w w') ∨
  ((a.formed && b.formed) = true ∧ ∃ (S' : Nat → Prop) (r : Bool) (vt' vm' : Value) (σ' : Int → Option T) (ρ' : Int → T) (tr' mk' : List Int), (∀ x, S x → S' x) ∧ (∀ x, S' x → S x ∨ w.heap.size ≤ x) ∧ e = .returned (.tuple #[.bool r, .int .i64 0]) ∧ JN S' B P M vt vm σ tr mk ρ a b w r vt' vm' σ' ρ' tr' mk' w')

theorem JN.back {S : Nat → Prop} {B P M : Nat} {vt vm : Value} {σ : Int → Option T} {tr mk : List Int} {ρ : Int → T} {a b : T} {w0 w w' : World} {r : Bool} {vt' vm' : Value} {σ' : Int → Option T} {ρ' : Int → T} {tr' mk' : List Int} (h : JN S B P M vt vm σ tr mk ρ a b w r vt' vm' σ' ρ' tr' mk' w') (hg : Gr w0 w) :
    JN S B P M vt vm σ tr mk ρ a b w0 r vt' vm' σ' ρ' tr' mk' w' where
  sm := h.sm
  ok := h.ok
  kp := Kp.trans (Kp.of_gr hg) h.kp
  lt x hx hl := h.lt x hx (Nat.lt_of_lt_of_le hl hg.size)
  lm x hx hl := h.lm x hx (Nat.lt_of_lt_of_le hl hg.size)
  yes := h.yes
  no := h.no

set_option maxHeartbeats 2000000 in
set_option maxRecDepth 100000 in
theorem unify_calls {S : Nat → Prop} {B : Nat} {w : World} {P M : Nat} {vt vm : Value} {σ : Int → Option T} {tr mk : List Int} {ρ : Int → T} (hs : SM S B w P M vt vm σ tr mk) (ho : StoreOk σ ρ) (a b : Tm) (ia : a.In w) (ib : b.In w) (hmk : (mk.length + 1) * 8 ≤ 140737488351232) :
    Calls Try.prog 26 #[.pointer (some ⟨P, 0, none⟩), a.val, b.val] w (RetSU S B P M vt vm σ tr mk ρ a.erase b.erase w) := by
  have HS := Lib.hid hs
  have HO := Lib.hid ho
  have Ia := Lib.hid ia
  have Ib := Lib.hid ib
  have hPl := hs.blk.lt
  generalize hQ : RetSU S B P M vt vm σ tr mk ρ a.erase b.erase w = Q
  have HQ : Hid (∀ e w', RetSU S B P M vt vm σ tr mk ρ a.erase b.erase w e w' → Q e w') := fun e w' h => by rw [← hQ]; exact h
  have hall : ∀ (w0 w' : World), Gr w w0 → Gr (w0.alloc (.cells #[.int .i64 a.k, .int .i64 a.n, .string a.s, .slice a.p a.l.length a.c, .int .i64 b.k, .int .i64 b.n, .string b.s, .slice b.p b.l.length b.c] 27)) w' → Calls Try.prog 77 #[.slice (some ⟨w0.heap.size, 0, none⟩) 2 2] w' (Ret (.bool (a.erase.formed && b.erase.formed)) w') := fun w0 w' h0 h1 => by
    have h2 := all_calls (two_new (Tm.In_below h0 ia) (Tm.In_below h0 ib) h1)
    rw [show T.formedL (Tm.eraseL [a, b]) = (a.erase.formed && b.erase.formed) by simp [Tm.eraseL, T.formedL]] at h2
    exact h2
  have Hall := Lib.hid hall
  clear hs ho ia ib hQ hall
  rw [show a.val = .agg #[.int .i64 a.k, .int .i64 a.n, .string a.s, .slice a.p a.l.length a.c] from rfl, show b.val = .agg #[.int .i64 b.k, .int .i64 b.n, .string b.s, .slice b.p b.l.length b.c] from rfl]
  go_enter Try.func26, Try.ntmps26
  try simp only [List.append_eq, List.cons_append, List.nil_append]
  go_upto_region 1 with fail
  obtain ⟨h4, h5, gA⟩ := two_blocks w (.int .i64 a.k) (.int .i64 a.n) (.string a.s) (.slice a.p a.l.length a.c) (.int .i64 b.k) (.int .i64 b.n) (.string b.s) (.slice b.p b.l.length b.c)
  generalize ((w.alloc (.cells #[.int .i64 a.k, .int .i64 a.n, .string a.s, .slice a.p a.l.length a.c] 27)).alloc (.cells #[.int .i64 b.k, .int .i64 b.n, .string b.s, .slice b.p b.l.length b.c] 27)) = wA at *
  obtain ⟨⟨x0, x1, x2, x3⟩, _, _⟩ := h4.out.parts
  obtain ⟨⟨y0, y1, y2, y3⟩, _, _⟩ := h5.out.parts
  have hff : ∃ ff, (a.erase.formed && b.erase.formed) = ff := ⟨_, rfl⟩
  obtain ⟨ff, hff⟩ := hff
  rw [hff] at Hall
  have Hff := Lib.hid hff
  clear hff
  go_wp2_with fail
  refine (Hall.out _ _ gA (Gr.rfl' _)).mono ?_
  rintro e w2 ⟨rfl, hg2⟩
  have gA2 : Gr wA w2 := Gr.trans (show Gr wA _ by go_grown) hg2
  have g2 : Gr w w2 := gA.trans gA2
  clear x0 x1 x2 x3 y0 y1 y2 y3 hg2
  cases ff with
  | false =>
    have Hb := Lib.hid (HQ.out _ w2 (.inl ⟨Hff.out, rfl, g2⟩))
    go_wp2_with fail
    exact Hb.out
  | true =>
    have k4 := h4.out.gr gA2
    have k5 := h5.out.gr gA2
    obtain ⟨⟨x0, x1, x2, x3⟩, _, _⟩ := k4.parts
    obtain ⟨⟨y0, y1, y2, y3⟩, _, _⟩ := k5.parts
    have hf : a.erase.formed = true ∧ b.erase.formed = true := by have := Hff.out; simpa using this
    have Hf := Lib.hid hf
    clear hf k4 k5 h4 h5
    go_upto_region 3 with fail
    refine wp_region_rely_tail 5 [fx (.pointer (some ⟨P, 0, none⟩)), fx a.val, tmIs (w.heap.size ≤ ·) a.erase, fx b.val, tmIs (w.heap.size ≤ ·) b.erase]
      (by kernel_rfl) (by kernel_rfl) (by decide) (by repeat (first | exact Stable.nil | refine Stable.fix ?_ | refine Stable.cons tmIs_stable ?_)) ?_ ?_
    · refine ⟨?_, ?_, ?a2, ?_, ?a4, trivial⟩
      all_goals
        intro af wz hg hold
        have h0 : af.tmps[0]?.getD undef = .pointer (some ⟨P, 0, none⟩) := hold 0 rfl
        have h4 : af.tmps[4]?.getD undef = .pointer (some ⟨w.heap.size, 0, none⟩) := hold 4 rfl
        have h5 : af.tmps[5]?.getD undef = .pointer (some ⟨w.heap.size + 1, 0, none⟩) := hold 5 rfl
        have z0 := Gr.at hg x0
        have z1 := Gr.at hg x1
        have z2 := Gr.at hg x2
        have z3 := Gr.at hg x3
        have zy0 := Gr.at hg y0
        have zy1 := Gr.at hg y1
        have zy2 := Gr.at hg y2
        have zy3 := Gr.at hg y3
        have Hg := Lib.hid hg
        clear hold x0 x1 x2 x3 y0 y1 y2 y3
        simp [predsImp, Region.binds, dstAt, fx]
        intros
        first
          | (rw [if_pos (by simp [*])]
             intro K hK)
          | (rename_i K hK)
        go_simp
      case a2 =>
        have hc := copy_calls (t := a) (Tm.In_below (g2.trans Hg.out) Ia.out) Hf.out.1
        refine hc.mono ?_
        rintro e w9 ⟨bm, i1, i2, rfl, ib, i3⟩
        exact hK _ _ ⟨bm, rfl, i1, i2, i3.mono fun x hx => Nat.le_trans (g2.trans Hg.out).size hx⟩ ib
      case a4 =>
        have hc := copy_calls (t := b) (Tm.In_below (g2.trans Hg.out) Ib.out) Hf.out.2
        refine hc.mono ?_
        rintro e w9 ⟨bm, i1, i2, rfl, ib, i3⟩
        exact hK _ _ ⟨bm, rfl, i1, i2, i3.mono fun x hx => Nat.le_trans (g2.trans Hg.out).size hx⟩ ib
      all_goals exact hK _ _ rfl (Gr.rfl' _)
    · intro w9 hg
      rintro _ rfl _ rfl _ ⟨u, rfl, iu, eu, ou⟩ _ rfl _ ⟨v, rfl, iv, ev, ov⟩
      simp only [finAll, Act.put, List.setIfInBounds_toArray, List.set_cons_succ, List.set_cons_zero, List.drop_succ_cons, List.drop_zero, List.take_zero]
      have gw9 : Gr w w9 := g2.trans hg
      have hs9 := HS.out.gr gw9
      have hs9' : SM (fun x => S x ∨ (w.heap.size ≤ x ∧ x < w9.heap.size)) B w9 P M vt vm σ tr mk := hs9.mono (fun x hx => .inl hx) fun x hx => by
        rcases hx with hx | ⟨h1, h2⟩
        · exact hs9.sepS x hx
        · refine ⟨h2, ?_, ?_, ?_, ?_⟩
          · have := HS.out.blk.lt; omega
          · have := HS.out.map.lt; omega
          · intro e; have := own_lt HS.out.tro e; omega
          · intro e; have := own_lt HS.out.mko e; omega
      have hj := Join_calls hs9' HO.out u v iu iv ((iu.on.and ou).mono fun x hx => .inr ⟨hx.2, hx.1⟩) ((iv.on.and ov).mono fun x hx => .inr ⟨hx.2, hx.1⟩) (by rw [eu]; exact Hf.out.1) (by rw [ev]; exact Hf.out.2) hmk
      rw [eu, ev] at hj
      have Huv := Lib.hid (show u.val = .agg #[.int .i64 u.k, .int .i64 u.n, .string u.s, .slice u.p u.l.length u.c] from rfl)
      have Hvv := Lib.hid (show v.val = .agg #[.int .i64 v.k, .int .i64 v.n, .string v.s, .slice v.p v.l.length v.c] from rfl)
      rw [Huv.out, Hvv.out] at hj ⊢
      have Hj := Lib.hid hj
      clear hj hs9 hs9' iu eu ou iv ev ov x0 x1 x2 x3 y0 y1 y2 y3 hg
      go_wp2_with fail
      refine Hj.out.mono ?_
      rintro e w10 ⟨r, vt', vm', σ', ρ', tr', mk', rfl, hj⟩
      have Hb := Lib.hid (HQ.out _ w10 (.inr ⟨Hff.out, _, r, vt', vm', σ', ρ', tr', mk', (fun x hx => .inl hx), (fun x hx => hx.imp id fun h => h.1), rfl, hj.back gw9⟩))
      clear hj
      go_wp2_with fail
      exact Hb.out

set_option maxHeartbeats 1000000 in
set_option maxRecDepth 100000 in
theorem mark_calls {S : Nat → Prop} {B : Nat} {w : World} {P M : Nat} {vt vm : Value} {σ : Int → Option T} {tr mk : List Int} (hs : SM S B w P M vt vm σ tr mk) :
    Calls Try.prog 20 #[.pointer (some ⟨P, 0, none⟩)] w (Ret (.int .i64 mk.length) w) := by
  have hR : Hid (∀ w', Gr w w' → Ret (.int .i64 mk.length) w (.returned (.int .i64 mk.length)) w') := fun w' h => ⟨rfl, h⟩
  generalize Ret (.int .i64 mk.length) w = Q at hR ⊢
  obtain ⟨pm, cm, rfl⟩ := own_form hs.mko
  have p2 := hs.blk.cell 2 (v := .slice pm mk.length cm) rfl
  have hPl := hs.blk.lt
  clear hs
  go_enter Try.func20, Try.ntmps20
  try simp only [List.append_eq, List.cons_append, List.nil_append]
  go_wp2_with fail
  exact hR.out _ (Gr.rfl' _)
end Go.Proofs.Ytmecghjnghhhkaa

namespace Go.Proofs.Ytmecghjnghhhkaa
open Go.RowKit Go.Maps Go.Lib

def aTm : Tm := .mk 3 0 ⟨#[97]⟩ none 0 []
def aT : T := .mk 3 0 [97] []
theorem aTm_erase : aTm.erase = aT := by rw [aTm, Tm.erase, Tm.eraseL, ByteArray.toList_mk]; rfl
theorem aT_formed : aT.formed = true := by rw [aT, T.formed]; decide
theorem aTm_in (w : World) : aTm.In w := atomTm_in (s := ⟨#[97]⟩) (by decide) w
theorem aT_map (θ : Int → T) : T.map θ aT = aT := by rw [aT, T.map, if_neg (by decide)]; split <;> rfl
theorem oneA_var : T.map (oneF 0 aT) (varT 0) = T.map (oneF 0 aT) aT := by rw [T.map_var, aT_map, oneF, if_pos rfl]
theorem canon_oneA : Canon (oneF 0 aT) := by
  have h := canon_var.step (x := 0) (y := aT) rfl ⟨by omega, by omega⟩ aT_formed (fun m hm => by rfl) (by rw [aT, T.occ]; simp) (fun m h => by rw [aT, varT] at h; injection h with h1; exact absurd h1 (by decide))
  have e : stepF varT 0 aT = oneF 0 aT := funext fun n => by rw [stepF, T.map_var]
  rwa [e] at h
theorem listOf_oneA : ListOf (oneF 0 aT) [⟨0, aTm⟩] := by
  refine ⟨by decide, fun n t => ?_, fun y hy => ?_⟩
  · constructor
    · rintro ⟨y, hy, rfl, rfl⟩
      rw [List.mem_singleton] at hy
      subst hy
      refine ⟨by show some (oneF 0 aT 0) = some aTm.erase; rw [aTm_erase, oneF, if_pos rfl], ?_⟩
      rw [aTm_erase]
      intro h
      rw [aT, varT] at h
      injection h with h1
      exact absurd h1 (by decide)
    · rintro ⟨h1, h2⟩
      replace h1 := Option.some.inj h1
      by_cases hn : n = 0
      · subst hn
        rw [oneF, if_pos rfl] at h1
        exact ⟨_, List.mem_singleton.2 rfl, rfl, by rw [aTm_erase, h1]⟩
      · rw [oneF, if_neg hn] at h1
        exact absurd h1.symm h2
  · rw [List.mem_singleton] at hy
    subst hy
    exact ⟨by rw [aTm_erase]; exact aT_formed, by decide, by decide⟩
/-- The list of the one answer. -/
theorem oneA_len {ρ : Int → T} {s : List Bd} (hl : ListOf ρ s) (hc : Canon ρ) (hh : Holds [(varT 0, aT)] ρ) : s.length = 1 := by
  have hu : Unif (oneF 0 aT) [(varT 0, aT)] := fun q hq => by
    rw [List.mem_singleton] at hq
    subst hq
    exact oneA_var
  have h0 := hh.1 (varT 0, aT) (List.mem_singleton.2 rfl)
  simp only at h0
  rw [T.map_var, aT_map] at h0
  have he : ρ = oneF 0 aT := hc.uniq canon_oneA (hh.2 _ hu) fun n => by
    rw [oneF]
    split
    · rename_i hn
      rw [hn, h0, aT_map]
    · rw [T.map_var]
  rw [he] at hl
  have := congrArg List.length (hl.uniq listOf_oneA)
  simpa [seeBds] using this

theorem one_prs {w W : World} {y : Pr} (ha : y.a.In w) (hb : y.b.In w) (hg : Gr (w.alloc (.cells #[.int .i64 y.a.k, .int .i64 y.a.n, .string y.a.s, .slice y.a.p y.a.l.length y.a.c, .int .i64 y.b.k, .int .i64 y.b.n, .string y.b.s, .slice y.b.p y.b.l.length y.b.c] 29)) W) : (Prs.mk (some ⟨w.heap.size, 0, none⟩) 1 [y]).In W := by
  obtain ⟨⟨x0, x1, x2, x3⟩, ⟨y0, y1, y2, y3⟩, gP⟩ := pair_blk w y _ rfl
  have hl := hg
  refine ⟨Nat.le_refl _, ⟨by simp, by simp⟩, .inr ⟨w.heap.size, 0, rfl, fun i z hz => ?_⟩, fun z hz => ?_⟩
  · match i, hz with
    | 0, hz => cases hz; exact ⟨⟨hg.at x0, hg.at x1, hg.at x2, hg.at x3⟩, hg.at y0, hg.at y1, hg.at y2, hg.at y3⟩
    | i + 1, hz => simp at hz
  · rw [List.mem_singleton] at hz
    subst hz
    exact ⟨Tm.In_below (gP.trans hg) ha, Tm.In_below (gP.trans hg) hb⟩
theorem formedV0 : (varT 0).formed = true := varT_formed ⟨by omega, by omega⟩

set_option maxHeartbeats 2000000 in
set_option maxRecDepth 100000 in
theorem thereUnify_calls (w : World) : Calls Try.prog 14 #[] w (Ret (.bool true) w) := by
  have hR : Hid (∀ b w', true = b → Gr w w' → Ret (.bool true) w (.returned (.bool b)) w') := fun b w' h1 h2 => ⟨by rw [h1], h2⟩
  generalize Ret (.bool true) w = Q at hR ⊢
  have HR := hR
  clear hR
  go_enter Try.func14, Try.ntmps14
  try simp only [List.append_eq, List.cons_append, List.nil_append]
  go_wp2_with fail
  refine (storeNew_calls w).mono ?_
  rintro e w1 ⟨rfl, hw1⟩
  have hst := SM.start (S := fun _ => False) (w := w) fun b hb => hb.elim
  rw [← hw1] at hst
  have g1 : Gr w w1 := by rw [hw1]; go_grown
  have hP0 : w.heap.size ≤ w.heap.size + 1 := Nat.le_succ _
  have Hst := Lib.hid hst
  clear hst hw1
  generalize w.heap.size + 1 = P at *
  go_wp2_with fail
  refine (rV_calls 0 w1 ⟨by omega, by omega⟩).mono ?_
  rintro e w2 ⟨rfl, g2⟩
  replace g2 : Gr w1 w2 := g2
  go_wp2_with fail
  refine (atomR_calls ⟨#[97]⟩ w2).mono ?_
  rintro e w3 ⟨rfl, g3⟩
  replace g3 : Gr w1 w3 := Gr.trans g2 g3
  have hun := unify_calls (Hst.out.gr g3) StoreOk.empty (varTm 0) aTm (varTm_in ⟨by omega, by omega⟩ _) (aTm_in _) (by simp)
  rw [varTm_erase, aTm_erase] at hun
  have Hun : Hid (Calls Try.prog 26 #[.pointer (some ⟨P, 0, none⟩), .agg #[.int .i64 1, .int .i64 0, .string ⟨#[]⟩, .slice none 0 0], .agg #[.int .i64 3, .int .i64 0, .string ⟨#[97]⟩, .slice none 0 0]] w3 _) := hun
  clear hun
  go_wp2_with fail
  refine Hun.out.mono ?_
  rintro e w4 (⟨hbad, -, -⟩ | ⟨-, S', r, vt', vm', σ', ρ', tr', mk', hS1, hS2, rfl, hj⟩)
  · rw [formedV0, aT_formed] at hbad
    cases hbad
  have hr : r = true := by
    cases r with
    | true => rfl
    | false => exact absurd oneA_var ((hj.no rfl).2.2.2.2 _ (through_var _))
  subst hr
  have hmk : mk'.length = 1 := by rw [(hj.yes rfl).2.2.2.1]; rfl
  have hmut : ∀ b, MutA P w.heap.size (.slice none 0 0) (.slice none 0 0) b → w.heap.size ≤ b := fun b hb => by
    rcases hb with (rfl | rfl | hb) | hb
    · exact hP0
    · exact Nat.le_refl _
    · cases hb
    · cases hb
  have g4 : Gr w w4 := Below.trans (g1.trans g3) (hj.kp.below hmut (g1.trans g3).size)
  have Hsm := Lib.hid hj.sm
  clear hj hmut hS1 hS2 Hun g1 g2 g3
  go_wp2_with fail
  refine (rV_calls 0 w4 ⟨by omega, by omega⟩).mono ?_
  rintro e w5 ⟨rfl, g5⟩
  replace g5 : Gr w4 w5 := g5
  go_wp2_with fail
  refine (atomR_calls ⟨#[97]⟩ w5).mono ?_
  rintro e w6 ⟨rfl, g6⟩
  replace g6 : Gr w4 w6 := Gr.trans g5 g6
  have Hso : Hid (∀ W, Gr (w6.alloc (.cells #[.int .i64 1, .int .i64 0, .string ⟨#[]⟩, .slice none 0 0, .int .i64 3, .int .i64 0, .string ⟨#[97]⟩, .slice none 0 0] 29)) W → Calls Try.prog 15 #[.slice (some ⟨w6.heap.size, 0, none⟩) 1 1] W (RetSolve [⟨varTm 0, aTm⟩] W)) := fun W hW => solve_calls _ 1 [⟨varTm 0, aTm⟩] W (one_prs (y := ⟨varTm 0, aTm⟩) (varTm_in ⟨by omega, by omega⟩ _) (aTm_in _) hW)
  go_wp2_with fail
  refine (Hso.out _ (Gr.rfl' _)).mono ?_
  rintro e w7 ⟨g7, hs⟩
  have hall : allP [⟨varTm 0, aTm⟩] = true := by simp [allP, varTm_erase, aTm_erase, formedV0, aT_formed]
  have hsee : seePrs [⟨varTm 0, aTm⟩] = [(varT 0, aT)] := by simp [seePrs, varTm_erase, aTm_erase]
  have g47 : Gr w4 w7 := g6.trans (Gr.trans (show Gr w6 _ by go_grown) g7)
  rcases hs with ⟨hb, -⟩ | ⟨-, ⟨-, hno⟩ | ⟨ρ, p, c, s, rfl, -, hl, hc, hh⟩⟩
  · rw [hall] at hb; cases hb
  · exact absurd (fun q hq => by
      rw [hsee, List.mem_singleton] at hq
      subst hq
      exact oneA_var) (hno (oneF 0 aT))
  rw [hsee] at hh
  have hlen := oneA_len hl hc hh
  rw [hlen]
  have hmark := mark_calls (Hsm.out.gr g47)
  rw [hmk] at hmark
  have Hmark := Lib.hid hmark
  clear hmark hlen hl hc hh hall hsee g7 g5 g6 hmk
  go_wp2_with fail
  refine Hmark.out.mono ?_
  rintro e w8 ⟨rfl, g8⟩
  replace g8 : Gr w7 w8 := g8
  go_wp2_with fail
  exact HR.out _ _ rfl ((g4.trans g47).trans g8)
end Go.Proofs.Ytmecghjnghhhkaa

namespace Go.Proofs.Ytmecghjnghhhkaa
open Go.RowKit Go.Lib

set_option maxHeartbeats 2000000 in
set_option maxRecDepth 100000 in
theorem sameBinds_calls (p q : Option Addr) (c d : Nat) (s u : List Bd) (w : World) (hs : (Bds.mk p c s).In w) (hu : (Bds.mk q d u).In w) (he : seeBds s = seeBds u) :
    Calls Try.prog 16 #[.slice p s.length c, .slice q u.length d] w (Ret (.bool true) w) := by
  have HS := Lib.hid hs
  have HU := Lib.hid hu
  have hsl := hs.2.1.1
  simp only at hsl
  have hR : Hid (∀ b, true = b → ∀ w', Gr w w' → Ret (.bool true) w (.returned (.bool b)) w') := fun b hb w' hg => ⟨by rw [hb], hg⟩
  generalize hQ : Ret (.bool true) w = Q at hR ⊢
  clear hQ hs hu
  obtain ⟨hl, hat⟩ := seeBds_at he
  have Hat := Lib.hid hat
  clear hat he
  have Hl := Lib.hid hl.symm
  rw [Hl.out]
  clear hl
  go_enter Try.func16, Try.ntmps16
  try simp only [List.append_eq, List.cons_append, List.nil_append]
  go_wp2_with fail
  go_loopg [5] s.length (fun m i wr => ∃ k : Nat, k ≤ s.length ∧ m = s.length - k ∧ i = .int .i64 k ∧ Gr w wr)
  case atStart => exact ⟨0, Nat.zero_le _, rfl, rfl, Gr.rfl' _⟩
  case round =>
    obtain ⟨k, hk, rfl, rfl, gr⟩ := hrel
    by_cases hlt : k < s.length
    · obtain ⟨b, o, rfl⟩ := HS.out.ptr (by omega)
      have hlt' : k < u.length := by have := Hl.out; omega
      obtain ⟨b', o', rfl⟩ := HU.out.ptr (by omega)
      obtain ⟨⟨c0, c1, c2, c3, c4⟩, hti, ⟨hv1, hv2⟩, hbl⟩ := (HS.out.mono gr).elem k hlt
      obtain ⟨⟨d0, d1, d2, d3, d4⟩, hti', -, hbl'⟩ := (HU.out.mono gr).elem k hlt'
      have Hti := Lib.hid hti
      have Hti' := Lib.hid hti'
      obtain ⟨e1, e2⟩ := Hat.out k hlt hlt'
      have He2 := Lib.hid e2
      have He1 := Lib.hid e1.symm
      clear hti hti' e1 e2
      generalize s[k] = x at *
      generalize u[k] = y at *
      have E1 := He1.out
      obtain ⟨yv, yt⟩ := y
      simp only at E1 d0 d1 d2 d3 d4 He2
      subst E1
      clear He1
      go_upto_region 6 with fail
      refine wp_region_rely [fx (.slice (some ⟨b, o, none⟩) s.length c), fx (.int .i64 k), fx (.pointer (some ⟨b, o + k * 5, none⟩)), fx (.pointer (some ⟨b, o + k * 5, none⟩)), fx (.int .i64 x.v), fx (.slice (some ⟨b', o', none⟩) s.length d), fx (.int .i64 k), fx (.pointer (some ⟨b', o' + k * 5, none⟩)), fx (.pointer (some ⟨b', o' + k * 5, none⟩)), fx (.int .i64 x.v), fx (.bool false), fx (.bool false), fx (.slice (some ⟨b, o, none⟩) s.length c), fx (.int .i64 k), fx (.pointer (some ⟨b, o + k * 5, none⟩)), fx (.pointer (some ⟨b, o + k * 5 + 1, none⟩)), fx x.t.val, fx (.slice (some ⟨b', o', none⟩) s.length d), fx (.int .i64 k), fx (.pointer (some ⟨b', o' + k * 5, none⟩)), fx (.pointer (some ⟨b', o' + k * 5 + 1, none⟩)), fx yt.val, fx (.bool true), fx (.bool false), fx (.bool false)]
        (by kernel_rfl) (by kernel_rfl) (by repeat (first | exact Stable.nil | refine Stable.fix ?_)) ?_ ?_
      · refine ⟨?_, ?_, ?_, ?_, ?_, ?_, ?_, ?_, ?_, ?_, ?_, ?_, ?_, ?_, ?_, ?_, ?_, ?_, ?_, ?_, ?_, ?_, ?a22, ?_, ?_, trivial⟩
        all_goals
          intro a wz hg hold
          have h0 : a.tmps[0]?.getD undef = .slice (some ⟨b, o, none⟩) s.length c := hold 0 rfl
          have h1 : a.tmps[1]?.getD undef = .slice (some ⟨b', o', none⟩) s.length d := hold 1 rfl
          have h5 : a.tmps[5]?.getD undef = .int .i64 k := hold 5 rfl
          have z0 := Gr.at hg c0
          have z1 := Gr.at hg c1
          have z2 := Gr.at hg c2
          have z3 := Gr.at hg c3
          have z4 := Gr.at hg c4
          have y0 := Gr.at hg d0
          have y1 := Gr.at hg d1
          have y2 := Gr.at hg d2
          have y3 := Gr.at hg d3
          have y4 := Gr.at hg d4
          have Hg := Lib.hid hg
          clear hold c0 c1 c2 c3 c4 d0 d1 d2 d3 d4
          simp [predsImp, Region.binds, dstAt, fx, wantedE, Act.eval]
          intros
          first
            | (rw [if_pos (by simp [*])]
               intro K hK)
            | (rename_i K hK)
          go_simp
        case a22 =>
          have hsame := same_calls (Tm.In_below Hg.out Hti.out) (Tm.In_below Hg.out Hti'.out)
          rw [He2.out, (same_iff _ _).2 rfl] at hsame
          refine hsame.mono ?_
          rintro e w2 ⟨rfl, hb2⟩
          exact hK _ _ rfl hb2
        all_goals exact hK _ _ rfl (Gr.rfl' _)
      · intro w3 hg
        rintro _ rfl _ rfl _ rfl _ rfl _ rfl _ rfl _ rfl _ rfl _ rfl _ rfl _ rfl _ rfl _ rfl _ rfl _ rfl _ rfl _ rfl _ rfl _ rfl _ rfl _ rfl _ rfl _ rfl _ rfl _ rfl
        simp only [finAll, Act.put, Exit.then, List.setIfInBounds_toArray, List.set_cons_succ, List.set_cons_zero]
        have gw3 : Gr w w3 := Gr.trans gr hg
        clear c0 c1 c2 c3 c4 d0 d1 d2 d3 d4 hg
        go_wp2_with fail
        go_roundg (s.length - (k + 1))
        case measure => omega
        case rel => exact ⟨k + 1, by omega, rfl, by go_num, gw3⟩
    · obtain rfl : k = s.length := by omega
      go_wp2_with fail
      exact hR.out _ rfl _ gr
end Go.Proofs.Ytmecghjnghhhkaa
