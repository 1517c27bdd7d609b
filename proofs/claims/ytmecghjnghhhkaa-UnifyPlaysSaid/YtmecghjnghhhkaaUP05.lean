/-
  hornlaw.UnifyPlays: the walk.
-/
import Derived.Test.YtmecghjnghhhkaaUP04
import Derived.Test.YtmecghjnghhhkaaUO28
namespace Go.Proofs.Ytmecghjnghhhkaa
open Go.RowKit Go.Maps Go.Lib

/-- The variables that are bound, in order. -/
def Lof (ρ : Int → T) (L : List Int) : Prop := L.Pairwise (· < ·) ∧ ∀ n, n ∈ L ↔ ρ n ≠ varT n
theorem Lof.uniq {ρ : Int → T} {L L' : List Int} (h : Lof ρ L) (h' : Lof ρ L') : L = L' := by
  have hp : L.Perm L' := (List.perm_ext_iff_of_nodup (h.1.imp fun {a b} h => by omega) (h'.1.imp fun {a b} h => by omega)).2 fun n => (h.2 n).trans (h'.2 n).symm
  have e1 : L.mergeSort leI = L := List.mergeSort_of_pairwise (h.1.imp fun {a b} h => by simp only [leI, decide_eq_true_eq]; omega)
  have e2 : L'.mergeSort leI = L' := List.mergeSort_of_pairwise (h'.1.imp fun {a b} h => by simp only [leI, decide_eq_true_eq]; omega)
  rw [← e1, ← e2]
  exact mergeSort_of_perm_i hp
theorem ListOf.lof {ρ : Int → T} {s : List Bd} (h : ListOf ρ s) : Lof ρ (s.map Bd.v) := by
  refine ⟨List.pairwise_map.2 (asc_pairwise h.1), fun n => ?_⟩
  rw [List.mem_map]
  constructor
  · rintro ⟨y, hy, rfl⟩ h2
    have := h.mem hy
    exact this.2 (this.1.symm.trans h2)
  · intro h2
    obtain ⟨y, hy, h4, _⟩ := (h.2.1 n (ρ n)).2 ⟨rfl, h2⟩
    exact ⟨y, hy, h4⟩
theorem StoreOk.lof {σ : Int → Option T} {ρ : Int → T} (ho : StoreOk σ ρ) {tr : List Int} (hn : tr.Nodup) (ht : ∀ n, n ∈ tr ↔ σ n ≠ none) : Lof ρ (tr.mergeSort leI) := by
  have hperm := List.mergeSort_perm tr leI
  have htr : ∀ a b c : Int, leI a b = true → leI b c = true → leI a c = true := fun a b c h1 h2 => by simp only [leI, decide_eq_true_eq] at *; exact Int.le_trans h1 h2
  have hto : ∀ a b : Int, (leI a b || leI b a) = true := fun a b => by simp only [leI, Bool.or_eq_true, decide_eq_true_eq]; exact Int.le_total a b
  refine ⟨?_, fun n => ?_⟩
  · have h1 := List.pairwise_mergeSort htr hto tr
    have h2 : (tr.mergeSort leI).Nodup := hperm.nodup_iff.2 hn
    exact (h1.and h2).imp fun {a b} h => by
      have h3 := h.1
      have h4 : a ≠ b := h.2
      simp only [leI, decide_eq_true_eq] at h3
      omega
  · rw [hperm.mem_iff, ht]
    constructor
    · intro h h2
      exact h (ho.open_ h2)
    · intro h h2
      exact h (ho.free _ h2)

/-- New numbers: what is bound where the pairs are E. -/
def boundV (B0 : Nat) (E : List (T × T)) : VP := fun v w => ∃ L ρ, Rob varT E (.done ρ) ∧ Lof ρ L ∧ (∀ n ∈ L, In64 n) ∧ IntsOwn w B0 v L
theorem boundV_stable {B0 : Nat} {E : List (T × T)} {C : Nat → Prop} (hC : ∀ b, C b → b < B0) : ∀ v w w', boundV B0 E v w → Kp C w w' → boundV B0 E v w' := fun _ _ _ ⟨L, ρ, h1, h2, h3, h4⟩ hk => ⟨L, ρ, h1, h2, h3, own_kp h4 hk fun b hb hc => by
  have := hC b hc
  rcases h4.2 with ⟨h5, _⟩ | ⟨g, cap, cur, h5, h6, _⟩
  · rw [h5] at hb; cases hb
  · rw [h5] at hb; cases hb; simp only at this; omega⟩
/-- A slice of so many. -/
def lenV (n : Nat) : VP := fun v _ => ∃ p c, v = .slice p n c
theorem lenV_stable {n : Nat} {C : Nat → Prop} : ∀ v w w', lenV n v w → Kp C w w' → lenV n v w' := fun _ _ _ h _ => h

/-- What is known before and after the step. -/
structure PlayJ (D : List (Nat × Nat)) (X Y : World → Prop) (listed : Array Bool) (w : World) : Prop where
  pre : listed.getD 5 false = false → X w
  post : listed.getD 5 false = true → Y w
  imp : ∀ x ∈ D, listed.getD x.1 false = true → listed.getD x.2 false = true
theorem PlayJ.start {D : List (Nat × Nat)} {X Y : World → Prop} {n : Nat} {w : World} (h : X w) : PlayJ D X Y (Array.replicate n false) w := by
  have e : ∀ i, (Array.replicate n false).getD i false = false := fun i => by simp only [Array.getD_eq_getD_getElem?, Array.getElem?_replicate]; split <;> rfl
  exact ⟨fun _ => h, fun h => by (rw [e] at h; cases h), fun x _ h => by (rw [e] at h; cases h)⟩
theorem getD_set_same {listed : Array Bool} {i : Nat} (h : listed.getD i true = false) : (listed.setIfInBounds i true).getD i false = true := by
  have hi : i < listed.size := by
    rcases Nat.lt_or_ge i listed.size with h' | h'
    · exact h'
    · simp [Array.getElem?_eq_none h'] at h
  simp [hi]
theorem getD_set_up {listed : Array Bool} {i j : Nat} (h : listed.getD j false = true) : (listed.setIfInBounds i true).getD j false = true := by
  by_cases e : i = j
  · subst e
    have hi : i < listed.size := by
      rcases Nat.lt_or_ge i listed.size with h' | h'
      · exact h'
      · simp [Array.getElem?_eq_none h'] at h
    simp [hi]
  · rw [getD_set_ne false e]; exact h
/-- Another operation than the step. -/
theorem PlayJ.set {D : List (Nat × Nat)} {X Y : World → Prop} (hX : ∀ w w', X w → Gr w w' → X w') (hY : ∀ w w', Y w → Gr w w' → Y w') {i : Nat} (h5 : i ≠ 5) {listed : Array Bool} {w w' : World} (h : PlayJ D X Y listed w) (hD : ∀ x ∈ D, x.1 = i → listed.getD x.2 false = true) (hg : Gr w w') : PlayJ D X Y (listed.setIfInBounds i true) w' where
  pre := fun h1 => hX _ _ (h.pre (by rwa [getD_set_ne false h5] at h1)) hg
  post := fun h1 => hY _ _ (h.post (by rwa [getD_set_ne false h5] at h1)) hg
  imp := fun x hx h1 => by
    by_cases e : x.1 = i
    · exact getD_set_up (hD x hx e)
    · rw [getD_set_ne false (fun e2 => e e2.symm)] at h1
      exact getD_set_up (h.imp x hx h1)
theorem PlayJ.other {D : List (Nat × Nat)} {X Y : World → Prop} (hX : ∀ w w', X w → Gr w w' → X w') (hY : ∀ w w', Y w → Gr w w' → Y w') {i : Nat} (h5 : i ≠ 5) (hD : D.all (fun x => x.1 != i) = true) (listed : Array Bool) (w w' : World) (h : PlayJ D X Y listed w) (hg : Gr w w') : PlayJ D X Y (listed.setIfInBounds i true) w' :=
  h.set hX hY h5 (fun x hx e => by have := List.all_eq_true.1 hD x hx; rw [e] at this; simp at this) hg
theorem PlayJ.step {D : List (Nat × Nat)} {X Y : World → Prop} {listed : Array Bool} {w w' : World} (h : PlayJ D X Y listed w) (hl : listed.getD 5 true = false) (hD : D.all (fun x => x.1 != 5) = true) (hY : Y w') : PlayJ D X Y (listed.setIfInBounds 5 true) w' where
  pre := fun h1 => by rw [getD_set_same hl] at h1; cases h1
  post := fun _ => hY
  imp := fun x hx h1 => by
    have h2 := List.all_eq_true.1 hD x hx
    rw [getD_set_ne false (fun e => by rw [← e] at h2; simp at h2)] at h1
    exact getD_set_up (h.imp x hx h1)
def playD : List (Nat × Nat) := [(6, 5), (7, 6), (14, 7), (15, 14)]
theorem PlayJ.at7 {X Y : World → Prop} {listed : Array Bool} {w : World} (h : PlayJ playD X Y listed w) (h7 : listed.getD 7 false = true) : Y w := h.post (h.imp (6, 5) (by decide) (h.imp (7, 6) (by decide) h7))
theorem PlayJ.at15 {X Y : World → Prop} {listed : Array Bool} {w : World} (h : PlayJ playD X Y listed w) (h15 : listed.getD 15 false = true) : Y w := h.at7 (h.imp (14, 7) (by decide) (h.imp (15, 14) (by decide) h15))
theorem playD_only {i j : Nat} {listed : Array Bool} (h : listed.getD j false = true) (hD : playD.all (fun x => x.1 != i || x.2 == j) = true) : ∀ x ∈ playD, x.1 = i → listed.getD x.2 false = true := fun x hx e => by
  have h1 := List.all_eq_true.1 hD x hx
  rw [e] at h1
  simp at h1
  rw [h1]
  exact h
theorem PlayEx.gr {B : Nat} {w w' : World} {P M Q : Nat} {E : List (T × T)} {k : Nat} (h : PlayEx B w P M Q E k) (hg : Gr w w') : PlayEx B w' P M Q E k := by
  obtain ⟨S, vt, vm, vq, σ, ρ, tr, mk, lp, hp, h1, h2⟩ := h
  exact ⟨S, vt, vm, vq, σ, ρ, tr, mk, lp, hp.gr hg, h1, h2⟩
theorem PlayEx.allRob {B : Nat} {w : World} {P M Q : Nat} {E : List (T × T)} {k : Nat} (h : PlayEx B w P M Q E k) : AllRob E := by
  obtain ⟨S, vt, vm, vq, σ, ρ, tr, mk, lp, hp, rfl, h2⟩ := h
  exact hp.rob

set_option maxHeartbeats 4000000 in
set_option maxRecDepth 100000 in
theorem unifyPlays_walk (p : Option Addr) (c : Nat) (l : List Stp) (w : World) (h : SlOf Stp.cells (Stp.In w) 10 128 w p c l) : Calls Try.prog 4 #[.slice p l.length c] w (Ret (.bool true) w) := by
  have HL := Lib.hid h
  have hll := h.2.1.1
  have Hfits := Lib.hid (playFits_calls p c l w h)
  have hR : Hid (∀ b w', true = b → Gr w w' → Ret (.bool true) w (.returned (.bool b)) w') := fun b w' h1 h2 => ⟨by rw [h1], h2⟩
  generalize Ret (.bool true) w = R at hR ⊢
  have HR := hR
  clear h hR
  go_enter Try.func4, Try.ntmps4
  try simp only [List.append_eq, List.cons_append, List.nil_append]
  go_wp2_with fail
  refine Hfits.out.mono ?_
  rintro e w1 ⟨b, rfl, hruns, g1⟩
  have Hruns := Lib.hid hruns
  clear hruns Hfits
  cases b with
  | false =>
    go_wp2_with fail
    exact HR.out _ _ rfl g1
  | true =>
    have Hrn : Hid (Runs l []) := Hruns.out rfl
    clear Hruns
    go_wp2_with fail
    refine (storeNew_calls w1).mono ?_
    rintro e w2 ⟨rfl, hw2'⟩
    have Hw2 := Lib.hid hw2'
    clear hw2'
    go_upto_region 5 with fail
    have hw2 := Hw2.out
    have hplay : Play w1.heap.size (w2.alloc (.cells #[.slice none 0 0] 41)) (w1.heap.size + 1) w1.heap.size w2.heap.size (· < w1.heap.size) (.slice none 0 0) (.slice none 0 0) (.slice none 0 0) (fun _ => none) varT [] [] [] := by
      have hsz : w2.heap.size = w1.heap.size + 2 := by rw [hw2]; simp
      have hst := SM.start (S := (· < w1.heap.size)) (w := w1) fun b hb => hb
      rw [← hw2] at hst
      exact ⟨hst.gr (by go_grown), RS.start (fun b hb => by omega), Hist.start, AllRob.nil, fun b hb => hb, by omega, ⟨by omega, by omega, (fun h => nomatch h), (fun h => nomatch h)⟩, (fun b h => nomatch h)⟩
    have g3 : Gr w1 (w2.alloc (.cells #[.slice none 0 0] 41)) := by
      have : Gr w1 w2 := by rw [hw2]; go_grown
      exact Gr.trans this (by go_grown)
    generalize w2.alloc (.cells #[.slice none 0 0] 41) = w3 at *
    clear hw2 Hw2
    have HB0 : Hid (w.heap.size ≤ w1.heap.size) := g1.size
    have Hpl := Lib.hid (show PlayEx w1.heap.size w3 (w1.heap.size + 1) w1.heap.size w2.heap.size [] 0 from ⟨_, _, _, _, _, _, _, _, _, hplay, rfl, Nat.le_refl _⟩)
    clear hplay
    generalize w2.heap.size = Q at *
    generalize w1.heap.size + 1 = P at *
    have HM : Hid (∃ M, M = w1.heap.size) := ⟨_, rfl⟩
    go_wp2_with fail
    go_loopg [5] l.length (fun m i wr => ∃ (k : Nat) (E : List (T × T)), k ≤ l.length ∧ m = l.length - k ∧ i = .int .i64 k ∧ Hid (PlayEx w1.heap.size wr P w1.heap.size Q E k) ∧ Hid (Runs (l.drop k) E) ∧ Gr w1 wr)
    case atStart => exact ⟨0, [], Nat.zero_le _, rfl, rfl, Hpl, Hrn, g3⟩
    case round =>
      obtain ⟨k, E, hk, rfl, rfl, hpe, hrun, gr⟩ := hrel
      by_cases hlt : k < l.length
      · have gwr : Gr w wr := g1.trans gr
        obtain ⟨b, o, rfl, hin, c0, ⟨c1, c2, c3, c4⟩, ⟨c5, c6, c7, c8⟩, c9⟩ := stp_elem (HL.out.mono gwr) k hlt
        have hbw : b < w.heap.size := by
          obtain ⟨b', o', hp', hb', -⟩ := HL.out.ptr (by omega)
          cases hp'
          exact hb'
        obtain ⟨E', hto, hru⟩ : ∃ E', Took E l[k] E' ∧ Runs (l.drop (k + 1)) E' := by
          have := hrun.out
          rw [List.drop_eq_getElem_cons hlt] at this
          exact this
        have Hto := Lib.hid hto
        have Hru := Lib.hid hru
        have Hin := Lib.hid hin
        have hl2 : (k + 1) * 112 ≤ 140737488351232 := by omega
        clear hin hto hru hrun
        generalize l[k] = x at *
        obtain ⟨S, vt, vm, vq, σ, ρ, tr, mk, lp, hp, rfl, hlp⟩ := hpe.out
        have Hp := Lib.hid hp
        have HC : Hid (∀ b, MutQ P w1.heap.size Q vt vm b → w1.heap.size ≤ b ∧ b < wr.heap.size) := hp.mut
        have Hnb : Hid (¬ MutQ P w1.heap.size Q vt vm b) := fun hm => by
          have := (hp.mut b hm).1
          have := HB0.out
          omega
        have HX : Hid (∀ w w', Play w1.heap.size w P w1.heap.size Q S vt vm vq σ ρ tr mk lp → Gr w w' → Play w1.heap.size w' P w1.heap.size Q S vt vm vq σ ρ tr mk lp) := fun _ _ h g => h.gr g
        have HY : Hid (∀ w w', PlayEx w1.heap.size w P w1.heap.size Q E' (k + 1) → Gr w w' → PlayEx w1.heap.size w' P w1.heap.size Q E' (k + 1)) := fun _ _ h g => h.gr g
        clear hp hpe
        go_upto_region 8 with fail
        refine wp_region_relyK [fx (.pointer (some ⟨P, 0, none⟩)), fx (.slice (some ⟨b, o, none⟩) l.length c), fx (.int .i64 k), fx (.pointer (some ⟨b, o + k * 10, none⟩)), fx (.agg #[.int .i64 x.k, .int .i64 x.a.k, .int .i64 x.a.n, .string x.a.s, .slice x.a.p x.a.l.length x.a.c, .int .i64 x.b.k, .int .i64 x.b.n, .string x.b.s, .slice x.b.p x.b.l.length x.b.c, .int .i64 x.n]), fx (.bool true), fx (.bool false), fx (.bool false), fx (.pointer (some ⟨P, 0, none⟩)), fx (.int .i64 E'.length), fx (.pointer (some ⟨Q, 0, none⟩)), lenV E'.length, fx (.int .i64 E'.length), fx (.bool false), fx (.bool false), fx (.bool false), fx (.pointer (some ⟨P, 0, none⟩)), boundV wr.heap.size E', boundV wr.heap.size E', fx (.bool true), fx (.bool false), fx (.bool false)]
          (Kp (MutQ P w1.heap.size Q vt vm)) (PlayJ playD (fun w => Play w1.heap.size w P w1.heap.size Q S vt vm vq σ ρ tr mk lp) (fun w => PlayEx w1.heap.size w P w1.heap.size Q E' (k + 1))) (by kernel_rfl) (by kernel_rfl) (fun _ _ h => Kp.of_gr h) (fun _ _ _ h k => Kp.trans h k) (fun w0 h => PlayJ.start (Hp.out.gr h)) (by repeat (first | exact StableR.nil | refine StableR.fix ?_ | refine StableR.cons lenV_stable ?_ | refine StableR.cons (boundV_stable fun b hb => (HC.out b hb).2) ?_)) ?_ ?_
        · refine ⟨stepK_plain (fun _ _ h => Kp.of_gr h) (fun listed w w' h hg => PlayJ.other HX.out HY.out (by decide) (by decide) listed w w' h hg) ?_, stepK_plain (fun _ _ h => Kp.of_gr h) (fun listed w w' h hg => PlayJ.other HX.out HY.out (by decide) (by decide) listed w w' h hg) ?_, stepK_plain (fun _ _ h => Kp.of_gr h) (fun listed w w' h hg => PlayJ.other HX.out HY.out (by decide) (by decide) listed w w' h hg) ?_, stepK_plain (fun _ _ h => Kp.of_gr h) (fun listed w w' h hg => PlayJ.other HX.out HY.out (by decide) (by decide) listed w w' h hg) ?_, stepK_plain (fun _ _ h => Kp.of_gr h) (fun listed w w' h hg => PlayJ.other HX.out HY.out (by decide) (by decide) listed w w' h hg) ?_, ?a5, ?a6, ?a7, stepK_plain (fun _ _ h => Kp.of_gr h) (fun listed w w' h hg => PlayJ.other HX.out HY.out (by decide) (by decide) listed w w' h hg) ?_, ?a9, stepK_plain (fun _ _ h => Kp.of_gr h) (fun listed w w' h hg => PlayJ.other HX.out HY.out (by decide) (by decide) listed w w' h hg) ?_, ?a11, stepK_plain (fun _ _ h => Kp.of_gr h) (fun listed w w' h hg => PlayJ.other HX.out HY.out (by decide) (by decide) listed w w' h hg) ?b12, stepK_plain (fun _ _ h => Kp.of_gr h) (fun listed w w' h hg => PlayJ.other HX.out HY.out (by decide) (by decide) listed w w' h hg) ?_, ?a14, ?a15, stepK_plain (fun _ _ h => Kp.of_gr h) (fun listed w w' h hg => PlayJ.other HX.out HY.out (by decide) (by decide) listed w w' h hg) ?_, ?a17, ?a18, stepK_plain (fun _ _ h => Kp.of_gr h) (fun listed w w' h hg => PlayJ.other HX.out HY.out (by decide) (by decide) listed w w' h hg) ?b19, stepK_plain (fun _ _ h => Kp.of_gr h) (fun listed w w' h hg => PlayJ.other HX.out HY.out (by decide) (by decide) listed w w' h hg) ?_, stepK_plain (fun _ _ h => Kp.of_gr h) (fun listed w w' h hg => PlayJ.other HX.out HY.out (by decide) (by decide) listed w w' h hg) ?_, trivial⟩
          case a5 =>
            intro listed fr ww hj hl hpre hg hdef hold
            have h0 : fr.tmps[0]?.getD undef = .slice (some ⟨b, o, none⟩) l.length c := hold 0 rfl
            have h3 : fr.tmps[3]?.getD undef = .pointer (some ⟨P, 0, none⟩) := hold 3 rfl
            have h4 : fr.tmps[4]?.getD undef = .pointer (some ⟨Q, 0, none⟩) := hold 4 rfl
            have h5 : fr.tmps[5]?.getD undef = .int .i64 k := hold 5 rfl
            have z0 := Kp.cell hg c0 Hnb.out
            have z1 := Kp.cell hg c1 Hnb.out
            have z2 := Kp.cell hg c2 Hnb.out
            have z3 := Kp.cell hg c3 Hnb.out
            have z4 := Kp.cell hg c4 Hnb.out
            have z5 := Kp.cell hg c5 Hnb.out
            have z6 := Kp.cell hg c6 Hnb.out
            have z7 := Kp.cell hg c7 Hnb.out
            have z8 := Kp.cell hg c8 Hnb.out
            have z9 := Kp.cell hg c9 Hnb.out
            have Hg := Lib.hid hg
            clear hold c0 c1 c2 c3 c4 c5 c6 c7 c8 c9
            have hp5 := hj.pre (getD_tf hl)
            clear hdef
            simp [predsImp, Region.binds, dstAt, fx]
            intros
            first
              | (rw [if_pos (by simp [*])]
                 intro K hK)
              | (rename_i K hK)
            go_simp
            have hst := stored_calls hp5 x ⟨Tm.In_below (show Gr w ww from Below.trans gwr ((Hg.out.weaken (C' := fun b => w.heap.size ≤ b) fun b _ hm => Nat.le_trans HB0.out (HC.out b hm).1).below (fun b hb => hb) gwr.size)) Hin.out.1, Tm.In_below (show Gr w ww from Below.trans gwr ((Hg.out.weaken (C' := fun b => w.heap.size ≤ b) fun b _ hm => Nat.le_trans HB0.out (HC.out b hm).1).below (fun b hb => hb) gwr.size)) Hin.out.2.1, Hin.out.2.2⟩ (Hin.out.1.on.mono fun b hb => Nat.lt_of_lt_of_le hb HB0.out) (Hin.out.2.1.on.mono fun b hb => Nat.lt_of_lt_of_le hb HB0.out) Hto.out (by omega)
            refine (show Calls Try.prog 19 #[.pointer (some ⟨P, 0, none⟩), .pointer (some ⟨Q, 0, none⟩), .agg #[.int .i64 x.k, .int .i64 x.a.k, .int .i64 x.a.n, .string x.a.s, .slice x.a.p x.a.l.length x.a.c, .int .i64 x.b.k, .int .i64 x.b.n, .string x.b.s, .slice x.b.p x.b.l.length x.b.c, .int .i64 x.n]] ww _ from hst).mono ?_
            rintro e w9 ⟨rfl, hpe9, k9⟩
            refine hK _ _ rfl k9 (hj.step hl (by decide) ?_)
            obtain ⟨S9, a1, a2, a3, a4, a5, a6, a7, lp9, hp9, e9, l9⟩ := hpe9
            exact ⟨S9, a1, a2, a3, a4, a5, a6, a7, lp9, hp9, e9, by omega⟩
          case a6 =>
            intro listed fr ww hj hl hpre hg hdef hold
            have h0 : fr.tmps[0]?.getD undef = .slice (some ⟨b, o, none⟩) l.length c := hold 0 rfl
            have h3 : fr.tmps[3]?.getD undef = .pointer (some ⟨P, 0, none⟩) := hold 3 rfl
            have h4 : fr.tmps[4]?.getD undef = .pointer (some ⟨Q, 0, none⟩) := hold 4 rfl
            have h5 : fr.tmps[5]?.getD undef = .int .i64 k := hold 5 rfl
            have z0 := Kp.cell hg c0 Hnb.out
            have z1 := Kp.cell hg c1 Hnb.out
            have z2 := Kp.cell hg c2 Hnb.out
            have z3 := Kp.cell hg c3 Hnb.out
            have z4 := Kp.cell hg c4 Hnb.out
            have z5 := Kp.cell hg c5 Hnb.out
            have z6 := Kp.cell hg c6 Hnb.out
            have z7 := Kp.cell hg c7 Hnb.out
            have z8 := Kp.cell hg c8 Hnb.out
            have z9 := Kp.cell hg c9 Hnb.out
            have Hg := Lib.hid hg
            clear hold c0 c1 c2 c3 c4 c5 c6 c7 c8 c9
            have h5l := hpre ⟨5, Ground.data⟩ (by simp) rfl
            clear hdef
            simp [predsImp, Region.binds, dstAt, fx]
            intros
            first
              | (rw [if_pos (by simp [*])]
                 intro K hK)
              | (rename_i K hK)
            go_simp
            exact hK _ _ rfl (Kp.refl _ _) (hj.set HX.out HY.out (by decide) (playD_only h5l (by decide)) (Gr.rfl' _))
          case a7 =>
            intro listed fr ww hj hl hpre hg hdef hold
            have h0 : fr.tmps[0]?.getD undef = .slice (some ⟨b, o, none⟩) l.length c := hold 0 rfl
            have h3 : fr.tmps[3]?.getD undef = .pointer (some ⟨P, 0, none⟩) := hold 3 rfl
            have h4 : fr.tmps[4]?.getD undef = .pointer (some ⟨Q, 0, none⟩) := hold 4 rfl
            have h5 : fr.tmps[5]?.getD undef = .int .i64 k := hold 5 rfl
            have z0 := Kp.cell hg c0 Hnb.out
            have z1 := Kp.cell hg c1 Hnb.out
            have z2 := Kp.cell hg c2 Hnb.out
            have z3 := Kp.cell hg c3 Hnb.out
            have z4 := Kp.cell hg c4 Hnb.out
            have z5 := Kp.cell hg c5 Hnb.out
            have z6 := Kp.cell hg c6 Hnb.out
            have z7 := Kp.cell hg c7 Hnb.out
            have z8 := Kp.cell hg c8 Hnb.out
            have z9 := Kp.cell hg c9 Hnb.out
            have Hg := Lib.hid hg
            clear hold c0 c1 c2 c3 c4 c5 c6 c7 c8 c9
            have h6l := hpre ⟨6, Ground.data⟩ (by simp) rfl
            clear hdef
            simp [predsImp, Region.binds, dstAt, fx]
            intros
            first
              | (rw [if_pos (by simp [*])]
                 intro K hK)
              | (rename_i K hK)
            go_simp
            exact hK _ _ rfl (Kp.refl _ _) (hj.set HX.out HY.out (by decide) (playD_only h6l (by decide)) (Gr.rfl' _))
          case a9 =>
            intro listed fr ww hj hl hpre hg hdef hold
            have h0 : fr.tmps[0]?.getD undef = .slice (some ⟨b, o, none⟩) l.length c := hold 0 rfl
            have h3 : fr.tmps[3]?.getD undef = .pointer (some ⟨P, 0, none⟩) := hold 3 rfl
            have h4 : fr.tmps[4]?.getD undef = .pointer (some ⟨Q, 0, none⟩) := hold 4 rfl
            have h5 : fr.tmps[5]?.getD undef = .int .i64 k := hold 5 rfl
            have z0 := Kp.cell hg c0 Hnb.out
            have z1 := Kp.cell hg c1 Hnb.out
            have z2 := Kp.cell hg c2 Hnb.out
            have z3 := Kp.cell hg c3 Hnb.out
            have z4 := Kp.cell hg c4 Hnb.out
            have z5 := Kp.cell hg c5 Hnb.out
            have z6 := Kp.cell hg c6 Hnb.out
            have z7 := Kp.cell hg c7 Hnb.out
            have z8 := Kp.cell hg c8 Hnb.out
            have z9 := Kp.cell hg c9 Hnb.out
            have Hg := Lib.hid hg
            clear hold c0 c1 c2 c3 c4 c5 c6 c7 c8 c9
            have hpe9 := hj.at7 (hpre ⟨7, Ground.guard⟩ (by simp) rfl)
            clear hdef
            simp [predsImp, Region.binds, dstAt, fx, wantedE, Act.eval]
            intros
            first
              | (rw [if_pos (by simp [*])]
                 intro K hK)
              | (rename_i K hK)
            go_simp
            obtain ⟨S9, a1, a2, a3, a4, a5, a6, a7, lp9, hp9, e9, l9⟩ := hpe9
            have hmk := mark_calls hp9.sm
            rw [show (a7.length : Int) = (E'.length : Int) by rw [hp9.lens, ← e9, seePrs_length]] at hmk
            refine hmk.mono ?_
            rintro e w9 ⟨rfl, g9⟩
            exact hK _ _ rfl (Kp.of_gr g9) (PlayJ.other HX.out HY.out (by decide) (by decide) _ _ _ hj g9)
          case a11 =>
            intro listed fr ww hj hl hpre hg hdef hold
            have h0 : fr.tmps[0]?.getD undef = .slice (some ⟨b, o, none⟩) l.length c := hold 0 rfl
            have h3 : fr.tmps[3]?.getD undef = .pointer (some ⟨P, 0, none⟩) := hold 3 rfl
            have h4 : fr.tmps[4]?.getD undef = .pointer (some ⟨Q, 0, none⟩) := hold 4 rfl
            have h5 : fr.tmps[5]?.getD undef = .int .i64 k := hold 5 rfl
            have z0 := Kp.cell hg c0 Hnb.out
            have z1 := Kp.cell hg c1 Hnb.out
            have z2 := Kp.cell hg c2 Hnb.out
            have z3 := Kp.cell hg c3 Hnb.out
            have z4 := Kp.cell hg c4 Hnb.out
            have z5 := Kp.cell hg c5 Hnb.out
            have z6 := Kp.cell hg c6 Hnb.out
            have z7 := Kp.cell hg c7 Hnb.out
            have z8 := Kp.cell hg c8 Hnb.out
            have z9 := Kp.cell hg c9 Hnb.out
            have Hg := Lib.hid hg
            clear hold c0 c1 c2 c3 c4 c5 c6 c7 c8 c9
            have hpe9 := hj.at7 (hpre ⟨7, Ground.guard⟩ (by simp) rfl)
            clear hdef
            obtain ⟨S9, a1, a2, a3, a4, a5, a6, a7, lp9, hp9, e9, l9⟩ := hpe9
            obtain ⟨p9, c9, rfl, -⟩ := hp9.rs.prs
            have q0 := hp9.rs.blk.cell 0 (v := .slice p9 lp9.length c9) rfl
            simp [predsImp, Region.binds, dstAt, fx, wantedE, Act.eval]
            intros
            first
              | (rw [if_pos (by simp [*])]
                 intro K hK)
              | (rename_i K hK)
            go_simp
            exact hK _ _ ⟨p9, c9, by rw [← e9, seePrs_length]⟩ (Kp.refl _ _) (PlayJ.other HX.out HY.out (by decide) (by decide) _ _ _ hj (Gr.rfl' _))
          case a14 =>
            intro listed fr ww hj hl hpre hg hdef hold
            have h0 : fr.tmps[0]?.getD undef = .slice (some ⟨b, o, none⟩) l.length c := hold 0 rfl
            have h3 : fr.tmps[3]?.getD undef = .pointer (some ⟨P, 0, none⟩) := hold 3 rfl
            have h4 : fr.tmps[4]?.getD undef = .pointer (some ⟨Q, 0, none⟩) := hold 4 rfl
            have h5 : fr.tmps[5]?.getD undef = .int .i64 k := hold 5 rfl
            have z0 := Kp.cell hg c0 Hnb.out
            have z1 := Kp.cell hg c1 Hnb.out
            have z2 := Kp.cell hg c2 Hnb.out
            have z3 := Kp.cell hg c3 Hnb.out
            have z4 := Kp.cell hg c4 Hnb.out
            have z5 := Kp.cell hg c5 Hnb.out
            have z6 := Kp.cell hg c6 Hnb.out
            have z7 := Kp.cell hg c7 Hnb.out
            have z8 := Kp.cell hg c8 Hnb.out
            have z9 := Kp.cell hg c9 Hnb.out
            have Hg := Lib.hid hg
            clear hold c0 c1 c2 c3 c4 c5 c6 c7 c8 c9
            have h7l := hpre ⟨7, Ground.data⟩ (by simp) rfl
            clear hdef
            simp [predsImp, Region.binds, dstAt, fx]
            intros
            first
              | (rw [if_pos (by simp [*])]
                 intro K hK)
              | (rename_i K hK)
            go_simp
            exact hK _ _ rfl (Kp.refl _ _) (hj.set HX.out HY.out (by decide) (playD_only h7l (by decide)) (Gr.rfl' _))
          case a15 =>
            intro listed fr ww hj hl hpre hg hdef hold
            have h0 : fr.tmps[0]?.getD undef = .slice (some ⟨b, o, none⟩) l.length c := hold 0 rfl
            have h3 : fr.tmps[3]?.getD undef = .pointer (some ⟨P, 0, none⟩) := hold 3 rfl
            have h4 : fr.tmps[4]?.getD undef = .pointer (some ⟨Q, 0, none⟩) := hold 4 rfl
            have h5 : fr.tmps[5]?.getD undef = .int .i64 k := hold 5 rfl
            have z0 := Kp.cell hg c0 Hnb.out
            have z1 := Kp.cell hg c1 Hnb.out
            have z2 := Kp.cell hg c2 Hnb.out
            have z3 := Kp.cell hg c3 Hnb.out
            have z4 := Kp.cell hg c4 Hnb.out
            have z5 := Kp.cell hg c5 Hnb.out
            have z6 := Kp.cell hg c6 Hnb.out
            have z7 := Kp.cell hg c7 Hnb.out
            have z8 := Kp.cell hg c8 Hnb.out
            have z9 := Kp.cell hg c9 Hnb.out
            have Hg := Lib.hid hg
            clear hold c0 c1 c2 c3 c4 c5 c6 c7 c8 c9
            have h14l := hpre ⟨14, Ground.data⟩ (by simp) rfl
            clear hdef
            simp [predsImp, Region.binds, dstAt, fx]
            intros
            first
              | (rw [if_pos (by simp [*])]
                 intro K hK)
              | (rename_i K hK)
            go_simp
            exact hK _ _ rfl (Kp.refl _ _) (hj.set HX.out HY.out (by decide) (playD_only h14l (by decide)) (Gr.rfl' _))
          case a17 =>
            intro listed fr ww hj hl hpre hg hdef hold
            have h0 : fr.tmps[0]?.getD undef = .slice (some ⟨b, o, none⟩) l.length c := hold 0 rfl
            have h3 : fr.tmps[3]?.getD undef = .pointer (some ⟨P, 0, none⟩) := hold 3 rfl
            have h4 : fr.tmps[4]?.getD undef = .pointer (some ⟨Q, 0, none⟩) := hold 4 rfl
            have h5 : fr.tmps[5]?.getD undef = .int .i64 k := hold 5 rfl
            have z0 := Kp.cell hg c0 Hnb.out
            have z1 := Kp.cell hg c1 Hnb.out
            have z2 := Kp.cell hg c2 Hnb.out
            have z3 := Kp.cell hg c3 Hnb.out
            have z4 := Kp.cell hg c4 Hnb.out
            have z5 := Kp.cell hg c5 Hnb.out
            have z6 := Kp.cell hg c6 Hnb.out
            have z7 := Kp.cell hg c7 Hnb.out
            have z8 := Kp.cell hg c8 Hnb.out
            have z9 := Kp.cell hg c9 Hnb.out
            have Hg := Lib.hid hg
            clear hold c0 c1 c2 c3 c4 c5 c6 c7 c8 c9
            have hpe9 := hj.at15 (hpre ⟨15, Ground.guard⟩ (by simp) rfl)
            clear hdef
            simp [predsImp, Region.binds, dstAt, fx, wantedE, Act.eval]
            intros
            first
              | (rw [if_pos (by simp [*])]
                 intro K hK)
              | (rename_i K hK)
            go_simp
            obtain ⟨S9, a1, a2, a3, a4, a5, a6, a7, lp9, hp9, e9, l9⟩ := hpe9
            refine (bound_calls hp9.sm).mono ?_
            rintro e w9 ⟨v, rfl, hv, g9⟩
            exact hK _ _ ⟨_, a5, by rw [← e9]; exact hp9.done, hp9.ok.lof hp9.sm.trn hp9.sm.tri, fun n hn => by (have := hp9.sm.range n ((List.mergeSort_perm a6 leI).mem_iff.1 hn); exact ⟨by omega, by omega⟩), ownsRow_base_a hv Hg.out.size⟩ (Kp.of_gr g9) (PlayJ.other HX.out HY.out (by decide) (by decide) _ _ _ hj g9)
          case a18 =>
            intro listed fr ww hj hl hpre hg hdef hold
            have h0 : fr.tmps[0]?.getD undef = .slice (some ⟨b, o, none⟩) l.length c := hold 0 rfl
            have h3 : fr.tmps[3]?.getD undef = .pointer (some ⟨P, 0, none⟩) := hold 3 rfl
            have h4 : fr.tmps[4]?.getD undef = .pointer (some ⟨Q, 0, none⟩) := hold 4 rfl
            have h5 : fr.tmps[5]?.getD undef = .int .i64 k := hold 5 rfl
            have z0 := Kp.cell hg c0 Hnb.out
            have z1 := Kp.cell hg c1 Hnb.out
            have z2 := Kp.cell hg c2 Hnb.out
            have z3 := Kp.cell hg c3 Hnb.out
            have z4 := Kp.cell hg c4 Hnb.out
            have z5 := Kp.cell hg c5 Hnb.out
            have z6 := Kp.cell hg c6 Hnb.out
            have z7 := Kp.cell hg c7 Hnb.out
            have z8 := Kp.cell hg c8 Hnb.out
            have z9 := Kp.cell hg c9 Hnb.out
            have Hg := Lib.hid hg
            clear hold c0 c1 c2 c3 c4 c5 c6 c7 c8 c9
            have hpe9 := hj.at15 (hpre ⟨15, Ground.guard⟩ (by simp) rfl)
            clear hdef
            simp [predsImp, Region.binds, dstAt, fx, wantedE, Act.eval]
            intros
            first
              | (rw [if_pos (by simp [*])]
                 intro K hK)
              | (rename_i K hK)
            go_simp
            obtain ⟨S9, a1, a2, a3, a4, a5, a6, a7, lp9, hp9, e9, l9⟩ := hpe9
            refine (rsBound_calls hp9.rs hp9.done).mono ?_
            rintro e w9 ⟨s, v, hs, rfl, hv, g9⟩
            exact hK _ _ ⟨_, a5, by rw [← e9]; exact hp9.done, hs.lof, fun n hn => by (obtain ⟨y, hy, rfl⟩ := List.mem_map.1 hn; have h4 := (hs.2.2 y hy).2; exact ⟨by omega, by omega⟩), ownsRow_base_a hv Hg.out.size⟩ (Kp.of_gr g9) (PlayJ.other HX.out HY.out (by decide) (by decide) _ _ _ hj g9)
          case b12 =>
            intro fr ww hg hold
            have h0 : fr.tmps[0]?.getD undef = .slice (some ⟨b, o, none⟩) l.length c := hold 0 rfl
            have h3 : fr.tmps[3]?.getD undef = .pointer (some ⟨P, 0, none⟩) := hold 3 rfl
            have h4 : fr.tmps[4]?.getD undef = .pointer (some ⟨Q, 0, none⟩) := hold 4 rfl
            have h5 : fr.tmps[5]?.getD undef = .int .i64 k := hold 5 rfl
            have z0 := Kp.cell hg c0 Hnb.out
            have z1 := Kp.cell hg c1 Hnb.out
            have z2 := Kp.cell hg c2 Hnb.out
            have z3 := Kp.cell hg c3 Hnb.out
            have z4 := Kp.cell hg c4 Hnb.out
            have z5 := Kp.cell hg c5 Hnb.out
            have z6 := Kp.cell hg c6 Hnb.out
            have z7 := Kp.cell hg c7 Hnb.out
            have z8 := Kp.cell hg c8 Hnb.out
            have z9 := Kp.cell hg c9 Hnb.out
            have Hg := Lib.hid hg
            clear hold c0 c1 c2 c3 c4 c5 c6 c7 c8 c9
            simp [predsImp, Region.binds, dstAt, fx, wantedE, Act.eval]
            intros
            first
              | (rw [if_pos (by simp [*])]
                 intro K hK)
              | (rename_i K hK)
            obtain ⟨p9, c9, hv9⟩ := ‹lenV _ _ _›
            go_simp
            exact hK _ _ rfl (Gr.rfl' _)
          case b19 =>
            intro fr ww hg hold
            have h0 : fr.tmps[0]?.getD undef = .slice (some ⟨b, o, none⟩) l.length c := hold 0 rfl
            have h3 : fr.tmps[3]?.getD undef = .pointer (some ⟨P, 0, none⟩) := hold 3 rfl
            have h4 : fr.tmps[4]?.getD undef = .pointer (some ⟨Q, 0, none⟩) := hold 4 rfl
            have h5 : fr.tmps[5]?.getD undef = .int .i64 k := hold 5 rfl
            have z0 := Kp.cell hg c0 Hnb.out
            have z1 := Kp.cell hg c1 Hnb.out
            have z2 := Kp.cell hg c2 Hnb.out
            have z3 := Kp.cell hg c3 Hnb.out
            have z4 := Kp.cell hg c4 Hnb.out
            have z5 := Kp.cell hg c5 Hnb.out
            have z6 := Kp.cell hg c6 Hnb.out
            have z7 := Kp.cell hg c7 Hnb.out
            have z8 := Kp.cell hg c8 Hnb.out
            have z9 := Kp.cell hg c9 Hnb.out
            have Hg := Lib.hid hg
            clear hold c0 c1 c2 c3 c4 c5 c6 c7 c8 c9
            simp [predsImp, Region.binds, dstAt, fx, wantedE, Act.eval]
            intros
            first
              | (rw [if_pos (by simp [*])]
                 intro K hK)
              | (rename_i K hK)
            go_simp
            obtain ⟨L, ρ1, r1, l1, i1, o1⟩ := ‹boundV _ _ (fr.tmps[33]?.getD undef) _›
            obtain ⟨L2, ρ2, r2, l2, i2, o2⟩ := ‹boundV _ _ (fr.tmps[34]?.getD undef) _›
            cases r1.same_out r2
            obtain rfl := l1.uniq l2
            obtain ⟨p1, c1, e1⟩ := o1.form
            obtain ⟨p2, c2, e2⟩ := o2.form
            rw [e1] at o1
            rw [e2] at o2
            rw [e1, e2]
            refine (sameNumbers_calls p1 p2 c1 c2 L ww (o1.sl i1).2 (o2.sl i2).2).mono ?_
            rintro e w9 ⟨rfl, g9⟩
            exact hK _ _ rfl g9
          all_goals
            intro fr ww hg hold
            have h0 : fr.tmps[0]?.getD undef = .slice (some ⟨b, o, none⟩) l.length c := hold 0 rfl
            have h3 : fr.tmps[3]?.getD undef = .pointer (some ⟨P, 0, none⟩) := hold 3 rfl
            have h4 : fr.tmps[4]?.getD undef = .pointer (some ⟨Q, 0, none⟩) := hold 4 rfl
            have h5 : fr.tmps[5]?.getD undef = .int .i64 k := hold 5 rfl
            have z0 := Kp.cell hg c0 Hnb.out
            have z1 := Kp.cell hg c1 Hnb.out
            have z2 := Kp.cell hg c2 Hnb.out
            have z3 := Kp.cell hg c3 Hnb.out
            have z4 := Kp.cell hg c4 Hnb.out
            have z5 := Kp.cell hg c5 Hnb.out
            have z6 := Kp.cell hg c6 Hnb.out
            have z7 := Kp.cell hg c7 Hnb.out
            have z8 := Kp.cell hg c8 Hnb.out
            have z9 := Kp.cell hg c9 Hnb.out
            have Hg := Lib.hid hg
            clear hold c0 c1 c2 c3 c4 c5 c6 c7 c8 c9
            simp [predsImp, Region.binds, dstAt, fx, wantedE, Act.eval]
            intros
            first
              | (rw [if_pos (by simp [*])]
                 intro K hK)
              | (rename_i K hK)
            go_simp
          all_goals exact hK _ _ rfl (Gr.rfl' _)
        · intro w9 k9 hj
          rintro _ rfl _ rfl _ rfl _ rfl _ rfl _ rfl _ rfl _ rfl _ rfl _ rfl _ rfl _ - _ rfl _ rfl _ rfl _ rfl _ rfl _ - _ - _ rfl _ rfl _ rfl
          simp only [finAll, Act.put, Exit.then, List.setIfInBounds_toArray, List.set_cons_succ, List.set_cons_zero]
          have hpe9 := Lib.hid (hj.post (by simp))
          have g9 : Gr w1 w9 := Below.trans gr ((k9.weaken (C' := fun b => w1.heap.size ≤ b) fun b _ hm => (HC.out b hm).1).below (fun b hb => hb) gr.size)
          clear c0 c1 c2 c3 c4 c5 c6 c7 c8 c9 hj k9
          go_wp2_with fail
          go_roundg (l.length - (k + 1))
          case measure => omega
          case rel => exact ⟨k + 1, E', by omega, rfl, by go_num, hpe9, Hru, g9⟩
      · obtain rfl : k = l.length := by omega
        go_wp2_with fail
        exact HR.out _ _ rfl (g1.trans gr)
end Go.Proofs.Ytmecghjnghhhkaa
