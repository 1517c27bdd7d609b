/-
  term.Match.
-/
import Derived.Test.YtcblmkhhhibddaaTS24
import Derived.Test.YtcblmkhhhibddaaTS15
import Derived.Test.YtcblmkhhhibddaaTS13
namespace Go.Proofs.Ytcblmkhhhibddaa
open Go.RowKit Go.Maps Go.Lib Go.Sort
open Go.ChangeMaps (setBlock)

set_option maxHeartbeats 1000000 in
set_option maxRecDepth 100000 in
theorem match1_calls (x y : Bd) (w : World) : Calls Try.prog 91 #[.agg #[.int .i64 x.v, .int .i64 x.t.k, .int .i64 x.t.n, .string x.t.s, .slice x.t.p x.t.l.length x.t.c], .agg #[.int .i64 y.v, .int .i64 y.t.k, .int .i64 y.t.n, .string y.t.s, .slice y.t.p y.t.l.length y.t.c]] w fun e w' => e = .returned (.int .i64 (cmpB x y)) ∧ ∃ q os', w' = grow (w.drewN q) os' := by
  have hcon := fun W' => compare_int64 x.v y.v W'
  unfold cmpB
  generalize cmpI x.v y.v = r at hcon ⊢
  go_enter Try.func91, Try.ntmps91
  go_wp2_with (go_at_call 92; refine (hcon _).mono ?_; rintro e w' ⟨rfl, rfl⟩)
  go_ret
  exact ⟨rfl, 0, _, by rw [alloc_eq_grow, alloc_eq_grow, grow_grow]; rfl⟩

theorem cmpLaysM (blk off size : Nat) (w : World) : CmpLays Try.prog 91 #[] Bd.cells 5 cmpB blk off size w :=
  fun _ _ _ _ x y => match1_calls x y _

/-- slices.SortFunc of binds of the call's own. -/
theorem sortBdsM_calls (B : Nat) (v : Value) (lo : List Bd) (w : World) (h : BuiltBds w B v lo) (hn : lo.length ≤ 1099511627777) (hB : B ≤ w.heap.size) :
    Calls Try.prog 90 #[v, .func (.func 91) #[] #[]] w fun e w' => e = .returned (.tuple #[]) ∧ ∃ lo', lo'.Perm lo ∧ lo'.Pairwise (fun x y => x.v ≤ y.v) ∧ BuiltBds w' B v lo' ∧ Kp (fun b => v.ownBlock = some b) w w' := by
  rcases h.2 with ⟨hv, h0⟩ | ⟨g, cap, cur, rfl, hg0, hblk, hnc, hcm, hsz, htk⟩
  · obtain rfl : lo = [] := List.eq_nil_of_length_eq_zero h0
    rw [hv] at h ⊢
    refine (Go.Proofs.AnyF.slices_SortFunc_none sfLays none 0 _ w).mono ?_
    rintro e w' ⟨rfl, rfl⟩
    exact ⟨rfl, [], List.Perm.refl _, List.Pairwise.nil, h, Kp.refl _ _⟩
  · have hgl : g < w.heap.size := (Array.getElem?_eq_some_iff.1 hblk).1
    have hH : HoldsK Bd.cells 5 w g 0 lo.toArray := holds_vals hblk (by
      rw [size_flatK, flatB]; simpa using htk)
    have hcall := Go.Proofs.AnyQ.slices_SortFunc sfLays 5 (fun w => Try.isAgg117 w) (fun w => Try.sizeOf117 w) Bd.cells (fun _ => rfl) (fun x v hv => by simp [Bd.cells, Tm.cells] at hv; rcases hv with rfl | rfl | rfl | rfl | rfl <;> rfl) cmpB swoB 91 #[] g 0 cap lo.toArray w
      (fun args w => by kernel_rfl) (cmpLaysM _ _ _ _) hH hgl (by simp; omega)
    rw [show lo.toArray.size = lo.length from by simp] at hcall
    refine hcall.mono ?_
    rintro e w' ⟨rfl, d', n, os, hp, hs, rfl⟩
    have hds : d'.size = lo.length := by rw [hp.1]; simp
    have hpl : d'.toList.Perm lo := by
      have := hp.2.2
      rw [show d'.extract 0 lo.length = d' by rw [← hds]; simp] at this
      simpa using this
    refine ⟨rfl, d'.toList, hpl, ?_, ?_, ?_⟩
    · rw [List.pairwise_iff_getElem]
      intro i j hi hj hij
      have hi' : i < d'.size := by simpa using hi
      have hj' : j < d'.size := by simpa using hj
      have := hs i j (Nat.zero_le _) hij (by omega)
      rw [ltB, getElem!_pos d' j hj', getElem!_pos d' i hi'] at this
      have := of_decide_eq_false this
      simp only [Array.getElem_toList]
      omega
    · refine ⟨by rw [bdcells_len], .inr ⟨g, cap, putCells id 0 (flatK Bd.cells 5 d') cur, by simp [hds], hg0, ?_, by simpa [hds] using hnc, hcm, ?_, ?_⟩⟩
      · exact (heap_grow_old _ _ (by simpa [putRow, putRowK, mapBlock, Go.Sort.ahead] using hgl)).trans (put_sameV _ hblk)
      · simpa [putCells] using hsz
      · have := take_putV cur (flatK Bd.cells 5 d') (by rw [size_flatK, hds, hsz]; exact Nat.mul_le_mul_right 5 hnc)
        rw [size_flatK] at this
        rw [Array.length_toList, this]
        exact flatB d'.toList
    · refine ⟨rfl, rfl, rfl, by simp [sortWorldK, putRowK, putRow, mapBlock, Go.Sort.ahead, grow], fun k hk hne => ?_⟩
      have hgk : g ≠ k := fun e => hne (by rw [← e]; rfl)
      exact (heap_grow_old _ _ (Nat.lt_of_lt_of_le hk (by simp [putRow, putRowK, mapBlock, Go.Sort.ahead]))).trans (put_otherV _ hgk)

/-- What has been collected of a map when these have been seen: all of it. -/
def ColA (f : Int → Option T) (E : Array MapEntry) (seen : Array Nat) (lo : List Bd) : Prop :=
  (lo.map Bd.v).Nodup ∧ (∀ y ∈ lo, f y.v = some y.t.erase ∧ ∃ e ∈ E.toList, seen.contains e.born = true ∧ e.key = kI64 y.v) ∧
  ∀ e ∈ E.toList, seen.contains e.born = true → ∀ n t, e.key = kI64 n → f n = some t → ∃ y ∈ lo, y.v = n
section
variable {f : Int → Option T} {E : Array MapEntry} {seen : Array Nat} {lo : List Bd}
theorem ColA.start : ColA f E #[] [] := ⟨List.nodup_nil, (fun y hy => nomatch hy), fun e _ h => by simp at h⟩
theorem ColA.snoc (h : ColA f E seen lo) (hbn : (E.toList.map (·.born)).Nodup) (hk : (E.toList.map (·.key)).Nodup) {e : MapEntry} {n : Int} {tm : Tm} (he : e ∈ E.toList) (hs : seen.contains e.born = false) (hkey : e.key = kI64 n) (hv : f n = some tm.erase) : ColA f E (seen.push e.born) (lo ++ [⟨n, tm⟩]) := by
  refine ⟨?_, fun y hy => ?_, fun e' he' hs' n' t' hk' hf' => ?_⟩
  · rw [List.map_append, List.nodup_append]
    refine ⟨h.1, by simp, ?_⟩
    intro a ha d hd
    obtain ⟨y, hy, rfl⟩ := List.mem_map.1 ha
    simp only [List.map_cons, List.map_nil, List.mem_singleton] at hd
    subst hd
    intro hyn
    obtain ⟨_, e', h3, h4, h5⟩ := h.2.1 y hy
    have := one_of (·.key) hk h3 he (by rw [h5, hkey, hyn])
    subst this
    rw [hs] at h4
    cases h4
  · rcases List.mem_append.1 hy with hy | hy
    · obtain ⟨h1, e', h3, h4, h5⟩ := h.2.1 y hy
      exact ⟨h1, e', h3, (seen_push _ _ _).2 (.inl h4), h5⟩
    · rw [List.mem_singleton] at hy
      subst hy
      exact ⟨hv, e, he, (seen_push _ _ _).2 (.inr rfl), hkey⟩
  · rcases (seen_push _ _ _).1 hs' with hs' | hs'
    · obtain ⟨y, hy, hyn⟩ := h.2.2 e' he' hs' n' t' hk' hf'
      exact ⟨y, List.mem_append_left _ hy, hyn⟩
    · have := one_of (·.born) hbn he' he hs'
      subst this
      have := kI64_inj (hk'.symm.trans hkey)
      subst this
      exact ⟨⟨n', tm⟩, List.mem_append_right _ (List.mem_singleton.2 rfl), rfl⟩
theorem ColA.all (h : ColA f E seen lo) (hall : ∀ e ∈ E.toList, seen.contains e.born = true) (hin : ∀ n t, f n = some t → ∃ e ∈ E.toList, e.key = kI64 n) (n : Int) (t : T) : (∃ y ∈ lo, y.v = n ∧ y.t.erase = t) ↔ f n = some t := by
  constructor
  · rintro ⟨y, hy, rfl, rfl⟩
    exact (h.2.1 y hy).1
  · intro h1
    obtain ⟨e, he, hk⟩ := hin n t h1
    obtain ⟨y, hy, hyn⟩ := h.2.2 e he (hall e he) n t hk h1
    refine ⟨y, hy, hyn, ?_⟩
    have := (h.2.1 y hy).1
    rw [hyn, h1] at this
    exact (Option.some.inj this).symm
theorem ColA.len (h : ColA f E seen lo) (hr : ∀ n, f n ≠ none → 0 ≤ n ∧ n ≤ 1099511627776) : lo.length ≤ 1099511627777 := by
  have := nodup_le 1099511627777 (lo.map Bd.v) h.1 fun x hx => by
    obtain ⟨y, hy, rfl⟩ := List.mem_map.1 hx
    have := hr y.v (by rw [(h.2.1 y hy).1]; simp)
    exact ⟨this.1, by omega⟩
  simpa using this
end
/-- The list of all that a map has. -/
def IsAll (f : Int → Option T) (l : List Bd) : Prop :=
  ascB (-1) l = true ∧ (∀ n t, (∃ y ∈ l, y.v = n ∧ y.t.erase = t) ↔ f n = some t) ∧ ∀ y ∈ l, y.t.erase.formed = true ∧ 0 ≤ y.v ∧ y.v ≤ 1099511627776
/-- Match's answer. -/
def RetMatch (B : Nat) (p t : T) (w : World) (e : Ending) (w' : World) : Prop :=
  ∃ (pp : Option Addr) (c : Nat) (l : List Bd) (b : Bool), e = .returned (.tuple #[.slice pp l.length c, .bool b, .int .i64 (errOf (p.formed && t.formed))]) ∧ (Bds.mk pp c l).In w' ∧ (∀ y ∈ l, y.t.On (fun x => B ≤ x)) ∧ Gr w w' ∧
    ((b = false ∧ l = [] ∧ ((p.formed && t.formed) = true → T.mat p t (fun _ => none) = none)) ∨ (b = true ∧ (p.formed && t.formed) = true ∧ ∃ g, T.mat p t (fun _ => none) = some g ∧ IsAll g l))
theorem match_ret {B0 : Nat} {p t : T} {g : Int → Option T} {E : Array MapEntry} {seen : Array Nat} {w w' : World} {B : Nat} {v : Value} {lo lo' : List Bd} (hf : (p.formed && t.formed) = true) (hg0 : T.mat p t (fun _ => none) = some g) (hcol : ColA g E seen lo) (hall : ∀ e ∈ E.toList, seen.contains e.born = true) (hin : ∀ n t, g n = some t → ∃ e ∈ E.toList, e.key = kI64 n) (hr : ∀ n, g n ≠ none → 0 ≤ n ∧ n ≤ 1099511627776)
    (hlo : ∀ y ∈ lo, y.t.In w' ∧ y.t.On (fun x => B0 ≤ x) ∧ y.t.erase.formed = true ∧ 0 ≤ y.v ∧ y.v ≤ 1099511627776) (hp : lo'.Perm lo) (hs : lo'.Pairwise (fun x y => x.v ≤ y.v)) (hb : BuiltBds w' B v lo') (hg : Gr w w') : RetMatch B0 p t w (.returned (.tuple #[v, .bool true, .int .i64 0])) w' := by
  have hlen := hcol.len hr
  have hlen' : lo'.length = lo.length := hp.length_eq
  obtain ⟨pp, c, rfl, hB⟩ := hb.bds (by omega) fun y hy => by
    have := hlo y (hp.mem_iff.1 hy)
    exact ⟨this.1, by constructor <;> omega⟩
  refine ⟨pp, c, lo', true, by rw [hf]; rfl, hB, fun y hy => (hlo y (hp.mem_iff.1 hy)).2.1, hg, .inr ⟨rfl, hf, g, hg0, asc_of lo' (-1) (fun y hy => ?_) hs ((hp.map Bd.v).nodup_iff.2 hcol.1), fun n t => ?_, fun y hy => ?_⟩⟩
  · have := hlo y (hp.mem_iff.1 hy)
    omega
  · rw [← hcol.all hall hin n t]
    constructor <;> rintro ⟨y, hy, h⟩
    · exact ⟨y, hp.mem_iff.1 hy, h⟩
    · exact ⟨y, hp.mem_iff.2 hy, h⟩
  · exact (hlo y (hp.mem_iff.1 hy)).2.2

theorem lo_next {B : Nat} {F : Bd → Prop} {lo : List Bd} {v v' : Value} {wC wD w4 : World} {n : Int} {u : Tm} (hlo : ∀ y ∈ lo, y.t.In wC ∧ y.t.On (fun x => B ≤ x ∧ v.ownBlock ≠ some x) ∧ F y) (iu : u.In wC) (ou : u.On (fun x => B ≤ x ∧ v.ownBlock ≠ some x)) (fu : F ⟨n, u⟩) (hg : Gr wC wD) (h3 : wD.grownBy w4 v.ownBlock) (h4 : v'.ownBlock = v.ownBlock ∨ v'.ownBlock = some wD.heap.size) :
    ∀ y ∈ lo ++ [⟨n, u⟩], y.t.In w4 ∧ y.t.On (fun x => B ≤ x ∧ v'.ownBlock ≠ some x) ∧ F y := by
  have one : ∀ s : Tm, s.In wC → s.On (fun x => B ≤ x ∧ v.ownBlock ≠ some x) → s.In w4 ∧ s.On (fun x => B ≤ x ∧ v'.ownBlock ≠ some x) := fun s h1 h2 => by
    have hk : Kp (fun b => v.ownBlock = some b) wC w4 := (Kp.of_gr hg).trans (Kp.of_grown h3 fun r hr => hr)
    refine ⟨kp_in h1 h2 (fun b hb => hb.2) hk, (h2.and h1.on).mono fun x hx => ⟨hx.1.1, fun e => ?_⟩⟩
    rcases h4 with h4 | h4
    · rw [h4] at e; exact hx.1.2 e
    · rw [h4] at e
      have := Option.some.inj e
      have := hg.size
      omega
  intro y hy
  rcases List.mem_append.1 hy with hy | hy
  · obtain ⟨a1, a2, a3⟩ := hlo y hy
    exact ⟨(one _ a1 a2).1, (one _ a1 a2).2, a3⟩
  · rw [List.mem_singleton] at hy
    subst hy
    exact ⟨(one _ iu ou).1, (one _ iu ou).2, fu⟩
theorem RetMatch.low {B B' : Nat} {p t : T} {w w' : World} {e : Ending} (hB : B' ≤ B) (h : RetMatch B p t w e w') : RetMatch B' p t w e w' := by
  obtain ⟨pp, c, l, b, h1, h2, h3, h4⟩ := h
  exact ⟨pp, c, l, b, h1, h2, fun y hy => (h3 y hy).mono fun x hx => Nat.le_trans hB hx, h4⟩

set_option maxHeartbeats 4000000 in
set_option maxRecDepth 100000 in
theorem tmatch_calls (p t : Tm) (w : World) (ip : p.In w) (it : t.In w) : Calls Try.prog 31 #[p.val, t.val] w (RetMatch w.heap.size p.erase t.erase w) := by
  have Ip := Lib.hid ip
  have It := Lib.hid it
  have hall : ∀ (w0 w' : World), Gr w w0 → Gr (w0.alloc (.cells #[.int .i64 p.k, .int .i64 p.n, .string p.s, .slice p.p p.l.length p.c, .int .i64 t.k, .int .i64 t.n, .string t.s, .slice t.p t.l.length t.c] 25)) w' → Calls Try.prog 79 #[.slice (some ⟨w0.heap.size, 0, none⟩) 2 2] w' (Ret (.bool (p.erase.formed && t.erase.formed)) w') := fun w0 w' h0 h1 => by
    have h2 := all_calls (two_new (Tm.In_below h0 ip) (Tm.In_below h0 it) h1)
    rw [show T.formedL (Tm.eraseL [p, t]) = (p.erase.formed && t.erase.formed) by simp [Tm.eraseL, T.formedL]] at h2
    exact h2
  have Hall := Lib.hid hall
  have hQ0 : Hid (∀ w', Gr w w' → ((p.erase.formed && t.erase.formed) = false) → RetMatch w.heap.size p.erase t.erase w (.returned (.tuple #[.slice none 0 0, .bool false, .int .i64 2])) w') := fun w' h1 h2 => ⟨none, 0, [], false, by rw [h2]; rfl, ⟨Nat.le_refl _, ⟨by simp, by simp⟩, .inl rfl, (fun y hy => nomatch hy)⟩, (fun y hy => nomatch hy), h1, .inl ⟨rfl, rfl, fun h => by rw [h2] at h; cases h⟩⟩
  have hQ1 : Hid (∀ w', Gr w w' → ((p.erase.formed && t.erase.formed) = true) → T.mat p.erase t.erase (fun _ => none) = none → RetMatch w.heap.size p.erase t.erase w (.returned (.tuple #[.slice none 0 0, .bool false, .int .i64 0])) w') := fun w' h1 h2 h3 => ⟨none, 0, [], false, by rw [h2]; rfl, ⟨Nat.le_refl _, ⟨by simp, by simp⟩, .inl rfl, (fun y hy => nomatch hy)⟩, (fun y hy => nomatch hy), h1, .inl ⟨rfl, rfl, fun _ => h3⟩⟩
  generalize hQ : RetMatch w.heap.size p.erase t.erase w = Q at hQ0 hQ1 ⊢
  have HQ := Lib.hid hQ
  have HQ0 := hQ0
  have HQ1 := hQ1
  have hmm := @run_makeMap Try.prog
  clear ip it hall hQ hQ0 hQ1
  rw [show p.val = .agg #[.int .i64 p.k, .int .i64 p.n, .string p.s, .slice p.p p.l.length p.c] from rfl, show t.val = .agg #[.int .i64 t.k, .int .i64 t.n, .string t.s, .slice t.p t.l.length t.c] from rfl]
  go_enter Try.func31, Try.ntmps31
  try simp only [List.append_eq, List.cons_append, List.nil_append]
  go_upto_region 1 with fail
  obtain ⟨h3, h4, gA⟩ := two_blocks w (.int .i64 p.k) (.int .i64 p.n) (.string p.s) (.slice p.p p.l.length p.c) (.int .i64 t.k) (.int .i64 t.n) (.string t.s) (.slice t.p t.l.length t.c)
  generalize ((w.alloc (.cells #[.int .i64 p.k, .int .i64 p.n, .string p.s, .slice p.p p.l.length p.c] 25)).alloc (.cells #[.int .i64 t.k, .int .i64 t.n, .string t.s, .slice t.p t.l.length t.c] 25)) = wA at *
  obtain ⟨⟨x0, x1, x2, x3⟩, _, _⟩ := h3.out.parts
  obtain ⟨⟨y0, y1, y2, y3⟩, _, sA⟩ := h4.out.parts
  have hff : ∃ ff, (p.erase.formed && t.erase.formed) = ff := ⟨_, rfl⟩
  obtain ⟨ff, hff⟩ := hff
  rw [hff] at Hall
  have Hff := Lib.hid hff
  clear hff
  go_wp2_with fail
  refine (Hall.out _ _ gA (Gr.rfl' _)).mono ?_
  rintro e w2 ⟨rfl, hg2⟩
  have gA2 : Gr wA w2 := Gr.trans (show Gr wA _ by go_grown) hg2
  have g2 : Gr w w2 := gA.trans gA2
  clear x0 x1 x2 x3 y0 y1 y2 y3 hg2
  cases ff with
  | false =>
    have Hb := Lib.hid (HQ0.out w2 g2 Hff.out)
    go_wp2_with fail
    exact Hb.out
  | true =>
    have hf : p.erase.formed = true ∧ t.erase.formed = true := by have := Hff.out; simpa using this
    have Hf := Lib.hid hf
    obtain ⟨⟨x0, x1, x2, x3⟩, _, _⟩ := (h3.out.gr gA2).parts
    obtain ⟨⟨y0, y1, y2, y3⟩, _, _⟩ := (h4.out.gr gA2).parts
    go_upto_region 4 with fail
    have gM : Gr w2 (w2.alloc (.map #[] 0)) := by go_grown
    have hm0 := TMap.made (· < w2.heap.size) w2
    have z0 := Gr.at gM x0
    have z1 := Gr.at gM x1
    have z2 := Gr.at gM x2
    have z3 := Gr.at gM x3
    have u0 := Gr.at gM y0
    have u1 := Gr.at gM y1
    have u2 := Gr.at gM y2
    have u3 := Gr.at gM y3
    have sM : (w2.alloc (.map #[] 0)).heap.size = w2.heap.size + 1 := World.size_alloc _ _
    generalize w2.alloc (.map #[] 0) = w3 at *
    have g3 : Gr w w3 := g2.trans gM
    have hcall := match_calls (p := p) (t := t) (f := fun _ => none) hm0 (fun b hb => ⟨by omega, by omega⟩) (Tm.In_below g3 Ip.out) ((Tm.In.on (Tm.In_below g2 Ip.out))) (Tm.In_below g3 It.out) ((Tm.In.on (Tm.In_below g2 It.out))) hf.1 hf.2
    have Hcall := Lib.hid (show Calls Try.prog 89 #[.agg #[.int .i64 p.k, .int .i64 p.n, .string p.s, .slice p.p p.l.length p.c], .agg #[.int .i64 t.k, .int .i64 t.n, .string t.s, .slice t.p t.l.length t.c], .map (some w2.heap.size)] w3 _ from hcall)
    have HM0 : Hid (w.heap.size ≤ w2.heap.size) := g2.size
    generalize w2.heap.size = M at *
    clear hcall hm0 hf x0 x1 x2 x3 y0 y1 y2 y3
    go_wp2_with fail
    refine Hcall.out.mono ?_
    rintro e w5 ⟨bb, rfl, k5, hyes, hno⟩
    have g5 : Gr w w5 := Below.trans g3 (k5.below (fun b hb => by rw [hb]; exact HM0.out) g3.size)
    clear z0 z1 z2 z3 u0 u1 u2 u3
    cases bb with
    | false =>
      have Hb := Lib.hid (HQ1.out w5 g5 Hff.out (hno rfl))
      clear hyes hno
      go_wp2_with fail
      exact Hb.out
    | true =>
      obtain ⟨g, hg, hm⟩ := hyes rfl
      have Hg := Lib.hid hg
      obtain ⟨E, c, hb, hold, hbn, hkn, hent, hin⟩ := hm.entries
      have hr4 : ∀ n, g n ≠ none → 0 ≤ n ∧ n ≤ 1099511627776 := hm.2.2
      have hbl : M < w5.heap.size := (Array.getElem?_eq_some_iff.1 hb).1
      have Hb := Lib.hid hb
      have Hold := Lib.hid hold
      have Hbn := Lib.hid hbn
      have Hkn := Lib.hid hkn
      have Hent := Lib.hid hent
      have Hin := Lib.hid hin
      have Hr4 := Lib.hid hr4
      clear hold hbn hkn hent hin hr4 hm hyes hno hg
      have hrg0 := run_range_map (P := Try.prog) w5 106 2 25 M E c Try.underlying106 hb
      go_wp2_with fail
      go_loopg [8] ((leftOf E #[]).size) (fun m v0 wr => ∃ (seen : Array Nat) (lo : List Bd) (v : Value), v = v0 ∧ m = (leftOf E seen).size ∧ wr.heap[w5.heap.size]? = some (.mapIter (some M) c seen c) ∧ BuiltBds wr (w5.heap.size + 1) v lo ∧ Gr w5 wr ∧ w5.heap.size < wr.heap.size ∧ Hid (ColA g E seen lo) ∧ Hid (∀ y ∈ lo, y.t.In wr ∧ y.t.On (fun x => w5.heap.size + 1 ≤ x ∧ v.ownBlock ≠ some x) ∧ y.t.erase.formed = true ∧ 0 ≤ y.v ∧ y.v ≤ 1099511627776))
      case atStart => exact ⟨#[], [], _, rfl, rfl, heap_alloc_new w5 _, World.ownsRow_nil _ _ _ 5, (by go_grown), (by simp), ColA.start, fun y hy => nomatch hy⟩
      case round =>
        obtain ⟨seen, lo, v, rfl, rfl, hr, hrow, gr, hsz, hcol, hlo⟩ := hrel
        have hbr : wr.heap[M]? = some (.map E c) := (gr.block M hbl).trans Hb.out
        have Hrow := Lib.hid hrow
        clear hrow
        rcases run_next_at (P := Try.prog) wr 0 w5.heap.size M c c seen E c hr hbr Hold.out (Nat.le_refl _) with ⟨h0, hnext⟩ | ⟨e, he, w1, hw1, hnext⟩
        · have Hall2 := Lib.hid (all_seen E seen h0)
          go_upto_region 11 with fail
          have Hlen := Lib.hid (ColA.len hcol.out Hr4.out)
          go_wp2_with (first
            | (go_at_call 90; refine (sortBdsM_calls (w5.heap.size + 1) _ lo wr Hrow.out Hlen.out hsz).mono ?_; rintro e w7 ⟨rfl, lo', hp, hs, hb1, hbw⟩; have Hend := Lib.hid (match_ret (B0 := w5.heap.size + 1) (w := w) Hff.out Hg.out hcol.out Hall2.out Hin.out Hr4.out (fun y hy => by
                obtain ⟨a1, a2, a3⟩ := hlo.out y hy
                exact ⟨kp_in a1 a2 (fun b hb => hb.2) hbw, a2.mono fun b hb => hb.1, a3⟩) hp hs hb1 (Below.trans (g5.trans gr) (hbw.below (fun b hb => Nat.le_trans g5.size (Nat.le_trans (Nat.le_succ _) (Hrow.out.ge hb))) (g5.trans gr).size))); clear hp hs hb1 hbw)
            | fail)
          rw [← HQ.out]
          exact RetMatch.low (by have := g5.size; omega) Hend.out
        · obtain ⟨hem, hes⟩ := mem_left he
          have hlt := left_shrinks E seen e he
          obtain ⟨hkp, hr2⟩ := kp_step (o' := .mapIter (some M) c (seen.push e.born) c) hr hw1
          generalize setBlock w1 w5.heap.size (.mapIter (some M) c (seen.push e.born) c) = w2' at hnext hkp hr2
          have g2' : Gr w5 w2' := Kp.gr_at gr hkp (Nat.le_refl _)
          have hbr2 : w2'.heap[M]? = some (.map E c) := (g2'.block M hbl).trans Hb.out
          have hentry := run_entry_at (P := Try.prog) w2' w5.heap.size M c seen E c e hr2 hbr2 hem Hbn.out
          have hsz2 : w5.heap.size < w2'.heap.size := Nat.lt_of_lt_of_le hsz hkp.size
          have Hrow2 := Lib.hid (BuiltBds.kp Hrow.out hkp (fun x hx h => by omega))
          have Hlo2 := Lib.hid (show ∀ y ∈ lo, y.t.In w2' from fun y hy => kp_in (hlo.out y hy).1 (hlo.out y hy).2.1 (fun b hb e => by rw [e] at hb; omega) hkp)
          obtain ⟨n, tm, hkey, hval, hfn, htin, hform, hton, hn0, hn1⟩ := Hent.out e hem
          have Htv := Lib.hid (show tm.val = .agg #[.int .i64 tm.k, .int .i64 tm.n, .string tm.s, .slice tm.p tm.l.length tm.c] from rfl)
          rw [hkey, hval, Htv.out] at hnext hentry
          simp only [kI64] at hnext hentry
          have Hem := Lib.hid hem
          have Hes := Lib.hid hes
          have Hkey := Lib.hid hkey
          have Hfn := Lib.hid hfn
          clear hem hes hkey hfn hval he hw1 hkp hr hbr
          go_upto_region 10 with fail
          have hB := BlkT.new w2' 25 #[.int .i64 tm.k, .int .i64 tm.n, .string tm.s, .slice tm.p tm.l.length tm.c]
          have gB : Gr w2' (w2'.alloc (.cells #[.int .i64 tm.k, .int .i64 tm.n, .string tm.s, .slice tm.p tm.l.length tm.c] 25)) := by go_grown
          generalize w2'.alloc (.cells #[.int .i64 tm.k, .int .i64 tm.n, .string tm.s, .slice tm.p tm.l.length tm.c] 25) = wB at *
          have hrB : wB.heap[w5.heap.size]? = some (.mapIter (some M) c (seen.push e.born) c) := (gB.block _ hsz2).trans hr2
          have grB : Gr w5 wB := g2'.trans gB
          have hszB : w5.heap.size < wB.heap.size := Nat.lt_of_lt_of_le hsz2 gB.size
          have HcB := Lib.hid (show Calls Try.prog 81 #[.agg #[.int .i64 tm.k, .int .i64 tm.n, .string tm.s, .slice tm.p tm.l.length tm.c]] wB _ from copy_calls (t := tm) (Tm.In_below grB htin) hform)
          have HrB := Lib.hid hrB
          have HrowB := Lib.hid (Hrow2.out.gr gB)
          have HloB := Lib.hid (show ∀ y ∈ lo, y.t.In wB from fun y hy => Tm.In_below gB (Hlo2.out y hy))
          have t0 := hB.cell 0 (v := .int .i64 tm.k) rfl
          have t1 := hB.cell 1 (v := .int .i64 tm.n) rfl
          have t2 := hB.cell 2 (v := .string tm.s) rfl
          have t3 := hB.cell 3 (v := .slice tm.p tm.l.length tm.c) rfl
          generalize w2'.heap.size = H at *
          clear hB hrB hr2 gB g2' hbr2 hentry hnext Hlo2 Hrow2
          go_wp2_with fail
          refine HcB.out.mono ?_
          rintro e' wC ⟨u, iu, eu, rfl, gC, ou⟩
          have Huv := Lib.hid (show u.val = .agg #[.int .i64 u.k, .int .i64 u.n, .string u.s, .slice u.p u.l.length u.c] from rfl)
          rw [Huv.out]
          have Iu := Lib.hid iu
          have Ou := Lib.hid ou
          have Eu := Lib.hid eu
          have grC : Gr w5 wC := grB.trans gC
          have hszC : w5.heap.size < wC.heap.size := Nat.lt_of_lt_of_le hszB gC.size
          have HrowC := Lib.hid (HrowB.out.gr gC)
          have Hcol2 := Lib.hid (ColA.snoc (tm := u) hcol.out Hbn.out Hkn.out Hem.out Hes.out Hkey.out (by rw [Hfn.out, Eu.out]))
          have Hlen := Lib.hid (ColA.len Hcol2.out Hr4.out)
          have Hlen2 : (lo.length + 1) * 64 ≤ 140737488351232 := by
            have := Hlen.out
            rw [List.length_append, List.length_singleton] at this
            omega
          have HrC : Hid (wC.heap[w5.heap.size]? = some (.mapIter (some M) c (seen.push e.born) c)) := (gC.block _ hszB).trans HrB.out
          have HloC := Lib.hid (show ∀ y ∈ lo, y.t.In wC from fun y hy => Tm.In_below gC (HloB.out y hy))
          have Hlo3 := Lib.hid (show ∀ wD w4 (v' : Value), Gr wC wD → wD.grownBy w4 v.ownBlock → (v'.ownBlock = v.ownBlock ∨ v'.ownBlock = some wD.heap.size) → ∀ y ∈ lo ++ [Bd.mk n u], y.t.In w4 ∧ y.t.On (fun x => w5.heap.size + 1 ≤ x ∧ v'.ownBlock ≠ some x) ∧ y.t.erase.formed = true ∧ 0 ≤ y.v ∧ y.v ≤ 1099511627776 from fun wD w4 v' a1 a2 a3 =>
            lo_next (F := fun y => y.t.erase.formed = true ∧ 0 ≤ y.v ∧ y.v ≤ 1099511627776) (fun y hy => ⟨HloC.out y hy, (hlo.out y hy).2.1, (hlo.out y hy).2.2⟩) Iu.out (Ou.out.mono fun x hx => ⟨by omega, fun e => by have := own_ltA HrowB.out e; omega⟩) ⟨by simp only; rw [Eu.out]; exact hform, hn0, hn1⟩ a1 a2 a3)
          clear t0 t1 t2 t3 iu ou eu
          go_wp2_with (first
            | (refine wpList_append_bd rfl _ _ rfl rfl (w5.heap.size + 1) _ lo ⟨n, u⟩ wC.heap.size 1 (by rfl) (by rfl) (HrowC.out.gr (by go_grown)) (by simp; omega) Hlen2 (BlkT.new wC _ _) ?_
               intro v' w4 h2 h3 h4)
            | fail)
          have gC4 : Below (w5.heap.size + 1) wC w4 := Below.trans (Below.mono (show Gr wC _ by go_grown) hszC) (grownBy_below h3 (by simp; omega) fun b hb => HrowC.out.ge hb)
          have Hlo4 := Lib.hid (Hlo3.out _ _ _ (by go_grown) h3 h4)
          go_roundg ((leftOf E (seen.push e.born)).size)
          case measure => exact hlt
          case rel => exact ⟨_, _, _, rfl, rfl, (gC4.block _ (Nat.lt_succ_self _)).trans HrC.out, h2, Below.trans grC (Below.mono gC4 (Nat.le_succ _)), Nat.lt_of_lt_of_le hszC gC4.size, Hcol2, Hlo4⟩
end Go.Proofs.Ytcblmkhhhibddaa
