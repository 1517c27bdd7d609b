/-
  hornkeep.still: a term of one's own that is as it was.
  hornkeep.spoilt, spoilTerm: what is written over is one's own.
-/
import Derived.Test.YtmecghjnghhhkaaTV02
import Derived.Test.YtmecghjnghhhkaaUO03
import Derived.Test.YtmecghjnghhhkaaUO04
import Derived.Test.YtmecghjnghhhkaaUO08
import Derived.Deep.LoopGhost
import Derived.Deep.CutRange
import Derived.Deep.CutBlock
import Derived.Deep.Light
namespace Go.Proofs.Ytmecghjnghhhkaa
open Go.RowKit Go.Lib

theorem marks_at (j r : Nat) (hj : j < 3) (hr : r < 4) : marks[j * 4 + r]? = markTm.cells[r]? := by
  match j, hj, r, hr with
  | 0, _, 0, _ | 0, _, 1, _ | 0, _, 2, _ | 0, _, 3, _ => rfl
  | 1, _, 0, _ | 1, _, 1, _ | 1, _, 2, _ | 1, _, 3, _ => rfl
  | 2, _, 0, _ | 2, _, 1, _ | 2, _, 2, _ | 2, _, 3, _ => rfl
theorem mark_in (w : World) : markTm.In w := by
  rw [markTm, Tm.In, Tm.InL]
  exact ⟨by omega, by omega, by decide, Nat.le_refl _, ⟨by simp, by omega⟩, .inl rfl, trivial⟩

theorem erase_at : ∀ {l l' : List Tm}, Tm.eraseL l = Tm.eraseL l' → ∀ (i : Nat) (h1 : i < l.length) (h2 : i < l'.length), l[i].erase = l'[i].erase
  | x :: xs, y :: ys, h, 0, _, _ => by
    rw [Tm.eraseL, Tm.eraseL] at h
    injection h
  | x :: xs, y :: ys, h, i + 1, h1, h2 => by
    rw [Tm.eraseL, Tm.eraseL] at h
    injection h with _ h
    exact erase_at h i (by simpa using h1) (by simpa using h2)

def stillOf (x : Tm) : Prop := ∀ (t : Tm) (w : World), x.In w → t.In w → x.erase = t.erase → x.Roomy w → Calls Try.prog 27 #[x.val, t.val] w (Ret (.bool true) w)

set_option maxHeartbeats 4000000 in
set_option maxRecDepth 100000 in
theorem still_step (k n : Int) (s : ByteArray) (px pt : Option Addr) (cx ct : Nat) (lx lt : List Tm) (ih : ∀ x ∈ lx, stillOf x) (w : World) (hx : (Tm.mk k n s px cx lx).In w) (ht : (Tm.mk k n s pt ct lt).In w) (hle : Tm.eraseL lx = Tm.eraseL lt) (hro : (Tm.mk k n s px cx lx).Roomy w) :
    Calls Try.prog 27 #[(Tm.mk k n s px cx lx).val, (Tm.mk k n s pt ct lt).val] w (Ret (.bool true) w) := by
  have hll : lt.length = lx.length := by rw [← Tm.eraseL_length lt, ← hle, Tm.eraseL_length]
  have HSx := Lib.hid hx.sl
  have HSt := Lib.hid ht.sl
  have hcx : cx ≤ 9223372036854775807 := hx.sl.2.1.2
  have hlx : lx.length * 56 ≤ 140737488351232 := hx.sl.2.1.1
  have hct : lx.length ≤ ct := by have := ht.sl.1; omega
  have hcxl : lx.length ≤ cx := hx.sl.1
  rw [Tm.Roomy] at hro
  have Hro := Lib.hid hro
  have Hih := Lib.hid ih
  have HE : Hid (∀ (i : Nat) (h1 : i < lx.length) (h2 : i < lt.length), lx[i].erase = lt[i].erase) := fun i h1 h2 => erase_at hle i h1 h2
  clear hx ht hle hro ih
  have hR : Hid (∀ b, true = b → ∀ w', Gr w w' → Ret (.bool true) w (.returned (.bool b)) w') := fun b hb w' hg => ⟨by rw [hb], hg⟩
  generalize hQ : Ret (.bool true) w = Q at hR ⊢
  clear hQ
  simp only [tm_val]
  rw [hll]
  go_enter Try.func27, Try.ntmps27
  try simp only [List.append_eq, List.cons_append, List.nil_append]
  go_upto_region 1 with fail
  obtain ⟨HX, HT, gA⟩ := two_blocks w (.int .i64 k) (.int .i64 n) (.string s) (.slice px lx.length cx) (.int .i64 k) (.int .i64 n) (.string s) (.slice pt lx.length ct)
  generalize (w.alloc (.cells #[.int .i64 k, .int .i64 n, .string s, .slice px lx.length cx] 27)).alloc (.cells #[.int .i64 k, .int .i64 n, .string s, .slice pt lx.length ct] 27) = wA at *
  obtain ⟨⟨x0, x1, x2, x3⟩, _, _⟩ := HX.out.parts
  obtain ⟨⟨t0, t1, t2, t3⟩, _, _⟩ := HT.out.parts
  go_upto_region 3 with fail
  go_wp2_with fail
  clear x0 x1 x2 x3 t0 t1 t2 t3
  go_loopg [39] lx.length (fun m i wr => ∃ j : Nat, j ≤ lx.length ∧ m = lx.length - j ∧ i = .int .i64 j ∧ Gr wA wr)
  case atStart => exact ⟨0, Nat.zero_le _, rfl, rfl, Gr.rfl' _⟩
  case round =>
    obtain ⟨j, hj, rfl, rfl, hgr⟩ := hrel
    have gr : Gr w wr := gA.trans hgr
    have HXr := Lib.hid (HX.out.gr hgr)
    have HTr := Lib.hid (HT.out.gr hgr)
    obtain ⟨⟨x0, x1, x2, x3⟩, _, _⟩ := HXr.out.parts
    obtain ⟨⟨t0, t1, t2, t3⟩, _, _⟩ := HTr.out.parts
    by_cases hlt : j < lx.length
    · obtain ⟨bx, ox, hpx⟩ := HSx.out.ptr (by omega)
      obtain ⟨bt, ot, hpt⟩ := HSt.out.ptr (by omega)
      subst hpx hpt
      obtain ⟨⟨c0, c1, c2, c3⟩, hxi, _⟩ := (HSx.out.mono gr).elem j hlt
      obtain ⟨⟨d0, d1, d2, d3⟩, hti, _⟩ := (HSt.out.mono gr).elem j (by omega)
      have hmem : lx[j] ∈ lx := List.getElem_mem hlt
      have Hix := Lib.hid (Hih.out _ hmem)
      have Hrx := Lib.hid (Tm.RoomyL_mem Hro.out.2 _ hmem)
      have Hxw := Lib.hid (Tm.InL_mem HSx.out.2.2.2 _ hmem)
      have HEj := Lib.hid (HE.out j hlt (by omega))
      have Hxi := Lib.hid hxi
      have Hti := Lib.hid hti
      clear hmem hxi hti
      generalize lx[j] = x at *
      have hjt : j < lt.length := by omega
      generalize lt[j] = y at *
      have Hxv := Lib.hid (show x.val = .agg #[.int .i64 x.k, .int .i64 x.n, .string x.s, .slice x.p x.l.length x.c] from rfl)
      have Hyv := Lib.hid (show y.val = .agg #[.int .i64 y.k, .int .i64 y.n, .string y.s, .slice y.p y.l.length y.c] from rfl)
      go_upto_region 6 with fail
      refine wp_region_rely [fx (.pointer (some ⟨w.heap.size, 3, none⟩)), fx (.slice (some ⟨bx, ox, none⟩) lx.length cx), fx (.int .i64 j), fx (.pointer (some ⟨bx, ox + j * 4, none⟩)), fx x.val, fx (.pointer (some ⟨w.heap.size + 1, 3, none⟩)), fx (.slice (some ⟨bt, ot, none⟩) lx.length ct), fx (.int .i64 j), fx (.pointer (some ⟨bt, ot + j * 4, none⟩)), fx y.val, fx (.bool true), fx (.bool false)]
        (by kernel_rfl) (by kernel_rfl) (by repeat (first | exact Stable.nil | refine Stable.fix ?_)) ?_ ?_
      · refine ⟨?_, ?_, ?_, ?_, ?_, ?_, ?_, ?_, ?_, ?_, ?a10, ?_, trivial⟩
        all_goals
          intro a wq hg hold
          have h2 : a.tmps[2]?.getD undef = .pointer (some ⟨w.heap.size, 0, none⟩) := hold 2 rfl
          have h3 : a.tmps[3]?.getD undef = .pointer (some ⟨w.heap.size + 1, 0, none⟩) := hold 3 rfl
          have h5 : a.tmps[5]?.getD undef = .int .i64 j := hold 5 rfl
          clear hold
          have X3 := Gr.at hg x3
          have T3 := Gr.at hg t3
          have C0 := Gr.at hg c0
          have C1 := Gr.at hg c1
          have C2 := Gr.at hg c2
          have C3 := Gr.at hg c3
          have D0 := Gr.at hg d0
          have D1 := Gr.at hg d1
          have D2 := Gr.at hg d2
          have D3 := Gr.at hg d3
          clear x0 x1 x2 x3 t0 t1 t2 t3 c0 c1 c2 c3 d0 d1 d2 d3
          simp [predsImp, Region.binds, dstAt, fx]
          intros
          first
            | (rw [if_pos (by simp [*])]
               intro K hK)
            | (rename_i K hK)
          go_simp
        case a10 =>
          refine (Hix.out y _ (Tm.In_below hg Hxi.out) (Tm.In_below hg Hti.out) HEj.out (Hrx.out.gr Hxw.out (gr.trans hg))).mono ?_
          rintro e w10 ⟨rfl, hg2⟩
          exact hK _ _ rfl hg2
        all_goals exact hK _ _ rfl (Gr.rfl' _)
      · intro wq hg
        rintro _ rfl _ rfl _ rfl _ rfl _ rfl _ rfl _ rfl _ rfl _ rfl _ rfl _ rfl _ rfl
        clear x0 x1 x2 x3 t0 t1 t2 t3 c0 c1 c2 c3 d0 d1 d2 d3
        simp only [finAll, Act.put, List.setIfInBounds_toArray, List.set_cons_succ, List.set_cons_zero]
        go_wp2_with fail
        go_roundg (lx.length - (j + 1))
        case measure => omega
        case rel => exact ⟨j + 1, by omega, rfl, by go_num, hgr.trans hg⟩
    · obtain rfl : j = lx.length := by omega
      by_cases h0 : lx = []
      · subst h0
        simp only [List.length_nil] at *
        go_wp2_with fail
        exact hR.out _ rfl _ gr
      · obtain ⟨bx, hpx, hcx3, hmk⟩ : ∃ b, px = some ⟨b, 0, none⟩ ∧ cx = lx.length + 3 ∧ ∀ j, j < 12 → w.cell? ⟨b, lx.length * 4 + j, none⟩ = marks[j]? := Hro.out.1.resolve_left h0
        subst hpx hcx3
        have Hmk := Lib.hid hmk
        have hpos : 0 < lx.length := List.length_pos_iff.2 h0
        clear hmk h0
        go_upto_region 12 with fail
        rw [show lx.length + 3 - lx.length = 3 by omega]
        clear x0 x1 x2 x3 t0 t1 t2 t3
        go_wp2_with fail
        go_loopg [71] 3 (fun m i wq => ∃ j : Nat, j ≤ 3 ∧ m = 3 - j ∧ i = .int .i64 j ∧ Gr wr wq)
        case atStart => exact ⟨0, by omega, rfl, rfl, Gr.rfl' _⟩
        case round =>
          obtain ⟨j, hj, rfl, rfl, hgq⟩ := hrel
          by_cases h3 : j < 3
          · have hq : ∀ r, r < 4 → wr.cell? ⟨bx, lx.length * 4 + j * 4 + r, none⟩ = markTm.cells[r]? := by
              intro r hr
              have h := Hmk.out (j * 4 + r) (by omega)
              rw [← Nat.add_assoc, marks_at j r h3 hr] at h
              match r, hr, h with
              | 0, _, h => exact Gr.at (gr.trans hgq) h
              | 1, _, h => exact Gr.at (gr.trans hgq) h
              | 2, _, h => exact Gr.at (gr.trans hgq) h
              | 3, _, h => exact Gr.at (gr.trans hgq) h
            have c0 : wr.cell? ⟨bx, lx.length * 4 + j * 4, none⟩ = some (.int .i64 9) := hq 0 (by omega)
            have c1 : wr.cell? ⟨bx, lx.length * 4 + j * 4 + 1, none⟩ = some (.int .i64 (-77)) := hq 1 (by omega)
            have c2 : wr.cell? ⟨bx, lx.length * 4 + j * 4 + 2, none⟩ = some (.string spoiltB) := hq 2 (by omega)
            have c3 : wr.cell? ⟨bx, lx.length * 4 + j * 4 + 3, none⟩ = some (.slice none 0 0) := hq 3 (by omega)
            clear hq
            go_upto_region 15 with fail
            refine wp_region_rely [fx (.slice (some ⟨bx, lx.length * 4, none⟩) 3 3), fx (.int .i64 j), fx (.pointer (some ⟨bx, lx.length * 4 + j * 4, none⟩)), fx markTm.val, fx markTm.val, fx (.bool true), fx (.bool false)]
              (by kernel_rfl) (by kernel_rfl) (by repeat (first | exact Stable.nil | refine Stable.fix ?_)) ?_ ?_
            · refine ⟨?_, ?_, ?_, ?_, ?a4, ?a5, ?_, trivial⟩
              all_goals
                intro a wp hg hold
                have h6 : a.tmps[6]?.getD undef = .slice (some ⟨bx, lx.length * 4, none⟩) 3 3 := hold 6 rfl
                have h7 : a.tmps[7]?.getD undef = .int .i64 j := hold 7 rfl
                clear hold
                have C0 := Gr.at hg c0
                have C1 := Gr.at hg c1
                have C2 := Gr.at hg c2
                have C3 := Gr.at hg c3
                clear c0 c1 c2 c3
                simp [predsImp, Region.binds, dstAt, fx]
                intros
                first
                  | (rw [if_pos (by simp [*])]
                     intro K hK)
                  | (rename_i K hK)
                go_simp
              case a4 =>
                refine (mark_calls _).mono ?_
                rintro e w10 ⟨rfl, hg2⟩
                exact hK _ _ rfl hg2
              case a5 =>
                refine (same_calls (t := markTm) (u := markTm) (mark_in _) (mark_in _)).mono ?_
                rw [same_refl]
                rintro e w10 ⟨rfl, hg2⟩
                exact hK _ _ rfl hg2
              all_goals exact hK _ _ rfl (Gr.rfl' _)
            · intro wp hg
              rintro _ rfl _ rfl _ rfl _ rfl _ rfl _ rfl _ rfl
              clear c0 c1 c2 c3
              simp only [finAll, Act.put, List.setIfInBounds_toArray, List.set_cons_succ, List.set_cons_zero]
              go_wp2_with fail
              go_roundg (3 - (j + 1))
              case measure => omega
              case rel => exact ⟨j + 1, by omega, rfl, by go_num, hgq.trans hg⟩
          · obtain rfl : j = 3 := by omega
            go_wp2_with fail
            exact hR.out _ rfl _ (gr.trans hgq)

theorem still_any (N : Nat) : ∀ x : Tm, SizeOf.sizeOf x ≤ N → stillOf x := by
  induction N with
  | zero => intro x h; cases x; simp at h
  | succ N ih =>
    intro x h t w hx ht he hr
    obtain ⟨k, n, s, p, c, l⟩ := x
    obtain ⟨k', n', s', p', c', l'⟩ := t
    rw [Tm.erase, Tm.erase] at he
    injection he with h1 h2 h3 h4
    subst h1
    subst h2
    obtain rfl := eq_of_toList h3
    exact still_step k n s p p' c c' l l' (fun x hx => ih x (by have := Tm.sizeOf_mem hx k n s p c; omega)) w hx ht h4 hr
/-- What is one's own and as it was, is still. -/
theorem still_calls {x t : Tm} {w : World} (hx : x.In w) (ht : t.In w) (he : x.erase = t.erase) (hr : x.Roomy w) : Calls Try.prog 27 #[x.val, t.val] w (Ret (.bool true) w) := still_any _ x (Nat.le_refl _) t w hx ht he hr
end Go.Proofs.Ytmecghjnghhhkaa

namespace Go.Proofs.Ytmecghjnghhhkaa
open Go.RowKit Go.Lib

/-- Each of the n terms is as it was, or a mark. -/
def SameOrMark (n : Nat) (cur cur' : Array Value) : Prop :=
  cur'.size = cur.size ∧ ∀ i, i < n → (∀ j, j < 4 → cur'[i * 4 + j]? = cur[i * 4 + j]?) ∨ (∀ j, j < 4 → cur'[i * 4 + j]? = markTm.cells[j]?)
theorem SameOrMark.refl (n : Nat) (cur : Array Value) : SameOrMark n cur cur := ⟨rfl, fun _ _ => .inl fun _ _ => rfl⟩
theorem SameOrMark.trans {n : Nat} {a b c : Array Value} (h : SameOrMark n a b) (k : SameOrMark n b c) : SameOrMark n a c := by
  refine ⟨k.1.trans h.1, fun i hi => ?_⟩
  rcases k.2 i hi with k2 | k2
  · rcases h.2 i hi with h2 | h2
    · exact .inl fun j hj => (k2 j hj).trans (h2 j hj)
    · exact .inr fun j hj => (k2 j hj).trans (h2 j hj)
  · exact .inr k2

/-- From w to w' only blocks of S have turned, and there terms have been written over by marks alone. -/
structure Spoil (S : Nat → Prop) (w w' : World) : Prop where
  kp : Kp S w w'
  keep : ∀ (b : Nat) (cur : Array Value) (n : Nat), S b → w.heap[b]? = some (.cells cur 27) → cur.size = n * 4 → ∃ cur', w'.heap[b]? = some (.cells cur' 27) ∧ SameOrMark n cur cur'
theorem Spoil.of_gr {S : Nat → Prop} {w w' : World} (h : Gr w w') : Spoil S w w' :=
  ⟨Kp.of_gr h, fun b cur _ _ hb _ => ⟨cur, (h.block b (Array.getElem?_eq_some_iff.1 hb).1).trans hb, SameOrMark.refl _ _⟩⟩
theorem Spoil.trans {S : Nat → Prop} {w w' w'' : World} (h : Spoil S w w') (k : Spoil S w' w'') : Spoil S w w'' := by
  refine ⟨h.kp.trans k.kp, fun b cur n hb hc hn => ?_⟩
  obtain ⟨c1, h1, h2⟩ := h.keep b cur n hb hc hn
  obtain ⟨c2, h3, h4⟩ := k.keep b c1 n hb h1 (h2.1.trans hn)
  exact ⟨c2, h3, h2.trans h4⟩

/-- A slice of terms, and the slices of its terms, so many deep: each lies on a whole block of S of its own length, or is none. -/
def Fit (S : Nat → Prop) (w : World) : Nat → Option Addr → Nat → Nat → Prop
  | 0, p, n, c => p = none ∧ n = 0 ∧ c = 0
  | d + 1, p, n, c => (p = none ∧ n = 0 ∧ c = 0) ∨ ∃ (b : Nat) (cur : Array Value), p = some ⟨b, 0, none⟩ ∧ S b ∧ w.heap[b]? = some (.cells cur 27) ∧ cur.size = n * 4 ∧ c = n ∧ n * 56 ≤ 140737488351232 ∧
      ∀ i, i < n → ∃ (k m : Int) (s : ByteArray) (q : Option Addr) (n' c' : Nat), cur[i * 4]? = some (.int .i64 k) ∧ cur[i * 4 + 1]? = some (.int .i64 m) ∧ cur[i * 4 + 2]? = some (.string s) ∧ cur[i * 4 + 3]? = some (.slice q n' c') ∧ Fit S w d q n' c'
theorem Fit.none_ (S : Nat → Prop) (w : World) : ∀ d, Fit S w d none 0 0
  | 0 => ⟨rfl, rfl, rfl⟩
  | _ + 1 => .inl ⟨rfl, rfl, rfl⟩
theorem Fit.spoil {S : Nat → Prop} {w w' : World} (hs : Spoil S w w') : ∀ {d : Nat} {p : Option Addr} {n c : Nat}, Fit S w d p n c → Fit S w' d p n c
  | 0, _, _, _, h => h
  | d + 1, p, n, c, h => by
    refine Or.imp id ?_ h
    rintro ⟨b, cur, hp, hb, hc, hn, hcn, h56, hel⟩
    obtain ⟨cur', hc', hsz, hsm⟩ := hs.keep b cur n hb hc hn
    refine ⟨b, cur', hp, hb, hc', hsz.trans hn, hcn, h56, fun i hi => ?_⟩
    rcases hsm i hi with h1 | h1
    · obtain ⟨k, m, s, q, n', c', e0, e1, e2, e3, hf⟩ := hel i hi
      exact ⟨k, m, s, q, n', c', (h1 0 (by omega)).trans e0, (h1 1 (by omega)).trans e1, (h1 2 (by omega)).trans e2, (h1 3 (by omega)).trans e3, Fit.spoil hs hf⟩
    · exact ⟨9, -77, spoiltB, none, 0, 0, h1 0 (by omega), h1 1 (by omega), h1 2 (by omega), h1 3 (by omega), Fit.none_ _ _ _⟩

/-- The list is written over: so far. -/
theorem mark_set (n i : Nat) (cur : Array Value) (hn : cur.size = n * 4) (hi : i < n) :
    SameOrMark n cur ((((cur.setIfInBounds (i * 4) (.int .i64 9)).setIfInBounds (i * 4 + 1) (.int .i64 (-77))).setIfInBounds (i * 4 + 2) (.string spoiltB)).setIfInBounds (i * 4 + 3) (.slice none 0 0)) := by
  refine ⟨by simp, fun k hk => ?_⟩
  by_cases h : k = i
  · subst h
    refine .inr fun j hj => ?_
    have hb : k * 4 + 3 < cur.size := by omega
    match j, hj with
    | 0, _ => simp [Tm.cells, markTm, Tm.k, show k * 4 < cur.size by omega]
    | 1, _ => simp [Tm.cells, markTm, Tm.n, show k * 4 + 1 < cur.size by omega]
    | 2, _ => simp [Tm.cells, markTm, Tm.s, show k * 4 + 2 < cur.size by omega]
    | 3, _ => simp [Tm.cells, markTm, Tm.p, Tm.c, Tm.l, hb]
  · refine .inl fun j hj => ?_
    rw [Array.getElem?_setIfInBounds_ne (by omega), Array.getElem?_setIfInBounds_ne (by omega), Array.getElem?_setIfInBounds_ne (by omega), Array.getElem?_setIfInBounds_ne (by omega)]

theorem spoil_set {S : Nat → Prop} {w : World} {b n i : Nat} {cur : Array Value} (hb : S b) (hc : w.heap[b]? = some (.cells cur 27)) (hn : cur.size = n * 4) (hi : i < n) :
    Spoil S w ((((w.setCell ⟨b, i * 4, none⟩ (.int .i64 9)).setCell ⟨b, i * 4 + 1, none⟩ (.int .i64 (-77))).setCell ⟨b, i * 4 + 2, none⟩ (.string spoiltB)).setCell ⟨b, i * 4 + 3, none⟩ (.slice none 0 0)) := by
  have h1 := heap_setCell_same _ b (i * 4) _ _ (.int .i64 9) hc
  have h2 := heap_setCell_same _ b (i * 4 + 1) _ _ (.int .i64 (-77)) h1
  have h3 := heap_setCell_same _ b (i * 4 + 2) _ _ (.string spoiltB) h2
  have h4 := heap_setCell_same _ b (i * 4 + 3) _ _ (.slice none 0 0) h3
  have hk : Kp (fun x => x = b) w _ := Kp.set4 (o1 := i * 4) (o2 := i * 4 + 1) (o3 := i * 4 + 2) (o4 := i * 4 + 3) (a := .int .i64 9) (b := .int .i64 (-77)) (c := .string spoiltB) (e := .slice none 0 0) (W := w) (R := b) rfl
  refine ⟨hk.mono fun x hx => by rw [show x = b from hx]; exact hb, fun b' cur' n' hb' hc' hn' => ?_⟩
  by_cases h : b' = b
  · subst h
    rw [hc] at hc'
    cases hc'
    obtain rfl : n' = n := by omega
    exact ⟨_, h4, mark_set n' i cur hn hi⟩
  · exact ⟨cur', (hk.block b' (Array.getElem?_eq_some_iff.1 hc').1 h).trans hc', SameOrMark.refl _ _⟩

def RetSpoil (S : Nat → Prop) (w : World) (e : Ending) (w' : World) : Prop := e = .returned (.tuple #[]) ∧ Spoil S w w'

set_option maxHeartbeats 2000000 in
set_option maxRecDepth 100000 in
theorem spoilt_none (S : Nat → Prop) (w : World) : Calls Try.prog 91 #[.slice none 0 0, markTm.val] w (RetSpoil S w) := by
  have hR : Hid (∀ w', Gr w w' → RetSpoil S w (.returned (.tuple #[])) w') := fun w' h => ⟨rfl, Spoil.of_gr h⟩
  generalize hQ : RetSpoil S w = Q at hR ⊢
  clear hQ
  obtain ⟨i0, hi, hz0, hz1, hz2⟩ := info_parts infoTermM
  have Hi := Lib.hid hi
  clear hi
  rw [markTm_val]
  go_enter Try.func91, Try.ntmps91
  try simp only [List.append_eq, List.cons_append, List.nil_append]
  go_upto_region 1 with fail
  have hN := Blk4.new w (.int .i64 9) (.int .i64 (-77)) (.string spoiltB) (.slice none 0 0)
  have gA : Gr w (w.alloc (.cells #[.int .i64 9, .int .i64 (-77), .string spoiltB, .slice none 0 0] 27)) := by go_grown
  generalize w.alloc (.cells #[.int .i64 9, .int .i64 (-77), .string spoiltB, .slice none 0 0] 27) = w1 at *
  have HM := Lib.hid hN
  clear hN
  go_wp2_with fail
  go_loopg [12] 0 (fun _ i wr => i = .int .i64 0 ∧ w1 = wr)
  case atStart => exact ⟨rfl, rfl⟩
  case round =>
    obtain ⟨rfl, rfl⟩ := hrel
    obtain ⟨⟨m0, m1, m2, m3⟩, _, _⟩ := HM.out.parts
    have hmk : (w1.alloc (.cells marks.toArray 27)).heap[w1.heap.size]? = some (.cells marks.toArray 27) := heap_alloc_new w1 _
    have hr := run_append_nil (P := Try.prog) (w1.alloc (.cells marks.toArray 27)) 25 25 27 i0 _ Try.underlying25 Hi.out hz0 ⟨w1.heap.size, 0, none⟩ 3 3 marks (by rw [hz1]; rfl)
      (fun j u hu => by rw [Go.WideShapes.add_plain, Nat.zero_add, cell_of_row _ _ j _ _ _ hmk]; simpa using hu) (by omega) (by omega) (by rw [hz2]; omega)
    have Hr := Lib.hid hr
    clear hr hmk
    go_wp2_with (first
      | (refine wpList_append_run _ rfl _ _ _ _ rfl _ _ (by rfl) (by rfl) _ _ Hr.out ?_)
      | fail)
    go_end0
    exact hR.out _ (gA.trans (by go_grown))

set_option maxHeartbeats 2000000 in
set_option maxRecDepth 100000 in
theorem spoilt_some (S : Nat → Prop) (b n : Nat) (cur : Array Value) (w : World) (hb : S b) (hS : ∀ b, S b → b < w.heap.size) (hc : w.heap[b]? = some (.cells cur 27)) (hn : cur.size = n * 4) (h56 : n * 56 ≤ 140737488351232) :
    Calls Try.prog 91 #[.slice (some ⟨b, 0, none⟩) n n, markTm.val] w (RetSpoil S w) := by
  have hR : Hid (∀ w', Spoil S w w' → RetSpoil S w (.returned (.tuple #[])) w') := fun w' h => ⟨rfl, h⟩
  generalize hQ : RetSpoil S w = Q at hR ⊢
  clear hQ
  obtain ⟨i0, hi, hz0, hz1, hz2⟩ := info_parts infoTermM
  have Hi := Lib.hid hi
  have hbl := hS b hb
  clear hi
  rw [markTm_val]
  go_enter Try.func91, Try.ntmps91
  try simp only [List.append_eq, List.cons_append, List.nil_append]
  go_upto_region 1 with fail
  have hN := Blk4.new w (.int .i64 9) (.int .i64 (-77)) (.string spoiltB) (.slice none 0 0)
  have gA : Gr w (w.alloc (.cells #[.int .i64 9, .int .i64 (-77), .string spoiltB, .slice none 0 0] 27)) := by go_grown
  generalize w.alloc (.cells #[.int .i64 9, .int .i64 (-77), .string spoiltB, .slice none 0 0] 27) = w1 at *
  have HM := Lib.hid hN
  clear hN
  have Hc1 := Lib.hid ((gA.block b hbl).trans hc)
  have HS := Lib.hid hS
  clear hc hS
  go_wp2_with fail
  go_loopg [12] n (fun m i wr => ∃ k : Nat, k ≤ n ∧ m = n - k ∧ i = .int .i64 k ∧ Hid (Spoil S w1 wr))
  case atStart => exact ⟨0, Nat.zero_le _, rfl, rfl, Spoil.of_gr (Gr.rfl' _)⟩
  case round =>
    obtain ⟨k, hk, rfl, rfl, hsp⟩ := hrel
    obtain ⟨c2, hc2, hsm⟩ := hsp.out.keep b cur n hb Hc1.out hn
    have hsz : c2.size = n * 4 := hsm.1.trans hn
    have HMr := Lib.hid (HM.out.kp hsp.out.kp (fun h => by have := HS.out _ h; omega))
    have Hc2 := Lib.hid hc2
    obtain ⟨⟨m0, m1, m2, m3⟩, _, _⟩ := HMr.out.parts
    by_cases hlt : k < n
    · have q : ∀ r, r < 4 → ∃ v, wr.cell? ⟨b, k * 4 + r, none⟩ = some v := fun r hr => ⟨_, (cell_of_row wr b _ _ _ _ Hc2.out).trans (Array.getElem?_eq_getElem (by omega))⟩
      obtain ⟨v0, q0⟩ := q 0 (by omega)
      obtain ⟨v1, q1⟩ := q 1 (by omega)
      obtain ⟨v2, q2⟩ := q 2 (by omega)
      obtain ⟨v3, q3⟩ := q 3 (by omega)
      rw [Nat.add_zero] at q0
      have z0 := frozen_of_row wr b (k * 4) _ _ Hc2.out
      have z1 := frozen_of_row wr b (k * 4 + 1) _ _ Hc2.out
      have z2 := frozen_of_row wr b (k * 4 + 2) _ _ Hc2.out
      have z3 := frozen_of_row wr b (k * 4 + 3) _ _ Hc2.out
      have hss := Lib.hid (hsp.out.trans (spoil_set (i := k) hb hc2 hsz hlt))
      clear q hc2 hsm
      go_wp2_with fail
      go_roundg (n - (k + 1))
      case measure => omega
      case rel => exact ⟨k + 1, by omega, rfl, by go_num, hss⟩
    · obtain rfl : k = n := by omega
      have hmk : (wr.alloc (.cells marks.toArray 27)).heap[wr.heap.size]? = some (.cells marks.toArray 27) := heap_alloc_new wr _
      have hc3 : (wr.alloc (.cells marks.toArray 27)).heap[b]? = some (.cells c2 27) := (heap_alloc_old wr _ (Array.getElem?_eq_some_iff.1 hc2).1).trans hc2
      have hr := run_append_grow (P := Try.prog) (wr.alloc (.cells marks.toArray 27)) 25 25 27 i0 _ Try.underlying25 Hi.out hz0 ⟨b, 0, none⟩ k k c2.toList (by rw [hz1]; simpa using hsz)
        (fun j u hu => by rw [Go.WideShapes.add_plain, Nat.zero_add, cell_of_row _ _ j _ _ _ hc3]; simpa using hu) ⟨wr.heap.size, 0, none⟩ 3 3 marks (by rw [hz1]; rfl)
        (fun j u hu => by rw [Go.WideShapes.add_plain, Nat.zero_add, cell_of_row _ _ j _ _ _ hmk]; simpa using hu) (by omega) (by omega) (growslice_fits (by omega) (by rw [hz2]; omega))
      have Hr := Lib.hid hr
      have hss := Lib.hid ((Spoil.of_gr gA).trans hsp.out)
      clear hr hmk hc3 hc2 hsm
      go_wp2_with (first
        | (refine wpList_append_run _ rfl _ _ _ _ rfl _ _ (by rfl) (by rfl) _ _ Hr.out ?_)
        | fail)
      go_end0
      exact hR.out _ (hss.out.trans (Spoil.of_gr (by go_grown)))

theorem spoilt_calls {S : Nat → Prop} {d : Nat} {p : Option Addr} {n c : Nat} {w : World} (hS : ∀ b, S b → b < w.heap.size) (h : Fit S w d p n c) : Calls Try.prog 91 #[.slice p n c, markTm.val] w (RetSpoil S w) := by
  cases d with
  | zero =>
    obtain ⟨rfl, rfl, rfl⟩ := h
    exact spoilt_none S w
  | succ d =>
    rcases h with ⟨rfl, rfl, rfl⟩ | ⟨b, cur, rfl, hb, hc, hn, rfl, h56, _⟩
    · exact spoilt_none S w
    · exact spoilt_some S b _ cur w hb hS hc hn h56

set_option maxHeartbeats 4000000 in
set_option maxRecDepth 100000 in
theorem spoilTerm_zero (S : Nat → Prop) (k m : Int) (s : ByteArray) (p : Option Addr) (n c : Nat) (w : World) (hS : ∀ b, S b → b < w.heap.size) (hf : Fit S w 0 p n c) : Calls Try.prog 28 #[.agg #[.int .i64 k, .int .i64 m, .string s, .slice p n c]] w (RetSpoil S w) := by
  have hR : Hid (∀ w', Spoil S w w' → RetSpoil S w (.returned (.tuple #[])) w') := fun w' h => ⟨rfl, h⟩
  generalize hQ : RetSpoil S w = Q at hR ⊢
  clear hQ
  have HS := Lib.hid hS
  clear hS
  go_enter Try.func28, Try.ntmps28
  try simp only [List.append_eq, List.cons_append, List.nil_append]
  go_upto_region 1 with fail
  have hN := Blk4.new w (.int .i64 k) (.int .i64 m) (.string s) (.slice p n c)
  have gA : Gr w (w.alloc (.cells #[.int .i64 k, .int .i64 m, .string s, .slice p n c] 27)) := by go_grown
  generalize w.alloc (.cells #[.int .i64 k, .int .i64 m, .string s, .slice p n c] 27) = w1 at *
  have HB := Lib.hid hN
  have HF := Lib.hid (hf.spoil (Spoil.of_gr gA))
  clear hN hf
  obtain ⟨⟨b0, b1, b2, b3⟩, _, _⟩ := HB.out.parts
  go_wp2_with fail
  clear b0 b1 b2 b3
  go_loopg [6] n (fun mm i wr => ∃ j : Nat, j ≤ n ∧ mm = n - j ∧ i = .int .i64 j ∧ Hid (Spoil S w1 wr))
  case atStart => exact ⟨0, Nat.zero_le _, rfl, rfl, Spoil.of_gr (Gr.rfl' _)⟩
  case round =>
    obtain ⟨j, hj, rfl, rfl, hsp⟩ := hrel
    have HBr := Lib.hid (HB.out.kp hsp.out.kp (fun h => by have := HS.out _ h; omega))
    have HFr := Lib.hid (HF.out.spoil hsp.out)
    have HSr : Hid (∀ b, S b → b < wr.heap.size) := fun b hb => by have := HS.out b hb; have := gA.size; have := hsp.out.kp.size; omega
    obtain ⟨⟨b0, b1, b2, b3⟩, _, _⟩ := HBr.out.parts
    by_cases hlt : j < n
    · obtain ⟨_, h0, _⟩ := HF.out
      omega
    · obtain rfl : j = n := by omega
      have HW := Lib.hid ((Spoil.of_gr gA).trans hsp.out)
      go_upto_region 6 with fail
      refine wp_region_rely_tail 3 [fx (.pointer (some ⟨w.heap.size, 3, none⟩)), fx (.slice p j c), fx markTm.val]
        (by kernel_rfl) (by kernel_rfl) (by decide) (by repeat (first | exact Stable.nil | refine Stable.fix ?_)) ?_ ?_
      · refine ⟨?_, ?_, ?a2, trivial⟩
        all_goals
          intro a wq hg hold
          have h1 : a.tmps[1]?.getD undef = .pointer (some ⟨w.heap.size, 0, none⟩) := hold 1 rfl
          clear hold
          have X3 := Gr.at hg b3
          clear b0 b1 b2 b3
          simp [predsImp, Region.binds, dstAt, fx]
          intros
          first
            | (rw [if_pos (by simp [*])]
               intro K hK)
            | (rename_i K hK)
          go_simp
        case a2 =>
          refine (mark_calls _).mono ?_
          rintro e w10 ⟨rfl, hg2⟩
          exact hK _ _ rfl hg2
        all_goals exact hK _ _ rfl (Gr.rfl' _)
      · intro wq hg
        rintro _ rfl _ rfl _ rfl
        have HWq := Lib.hid (HW.out.trans (Spoil.of_gr hg))
        have Hfin := Lib.hid (spoilt_calls (w := wq) (fun b hb => by have := HSr.out b hb; have := hg.size; omega) (HFr.out.spoil (Spoil.of_gr hg)))
        clear b0 b1 b2 b3
        simp only [finAll, Act.put, List.setIfInBounds_toArray, List.set_cons_succ, List.set_cons_zero, List.drop_succ_cons, List.drop_zero, List.take_zero]
        go_wp2_with (first
          | (go_at_call 91; refine Hfin.out.mono ?_; rintro e w2 ⟨rfl, h2⟩)
          | fail)
        go_end0
        exact hR.out _ (HWq.out.trans h2)

set_option maxHeartbeats 4000000 in
set_option maxRecDepth 100000 in
theorem spoilTerm_succ (d : Nat) (ih : ∀ (S : Nat → Prop) (k m : Int) (s : ByteArray) (p : Option Addr) (n c : Nat) (w : World), (∀ b, S b → b < w.heap.size) → Fit S w d p n c → Calls Try.prog 28 #[.agg #[.int .i64 k, .int .i64 m, .string s, .slice p n c]] w (RetSpoil S w)) (S : Nat → Prop) (k m : Int) (s : ByteArray) (p : Option Addr) (n c : Nat) (w : World) (hS : ∀ b, S b → b < w.heap.size) (hf : Fit S w (d + 1) p n c) : Calls Try.prog 28 #[.agg #[.int .i64 k, .int .i64 m, .string s, .slice p n c]] w (RetSpoil S w) := by
  have hR : Hid (∀ w', Spoil S w w' → RetSpoil S w (.returned (.tuple #[])) w') := fun w' h => ⟨rfl, h⟩
  generalize hQ : RetSpoil S w = Q at hR ⊢
  clear hQ
  have HS := Lib.hid hS
  clear hS
  go_enter Try.func28, Try.ntmps28
  try simp only [List.append_eq, List.cons_append, List.nil_append]
  go_upto_region 1 with fail
  have hN := Blk4.new w (.int .i64 k) (.int .i64 m) (.string s) (.slice p n c)
  have gA : Gr w (w.alloc (.cells #[.int .i64 k, .int .i64 m, .string s, .slice p n c] 27)) := by go_grown
  generalize w.alloc (.cells #[.int .i64 k, .int .i64 m, .string s, .slice p n c] 27) = w1 at *
  have HB := Lib.hid hN
  have HF := Lib.hid (hf.spoil (Spoil.of_gr gA))
  clear hN hf
  obtain ⟨⟨b0, b1, b2, b3⟩, _, _⟩ := HB.out.parts
  go_wp2_with fail
  clear b0 b1 b2 b3
  go_loopg [6] n (fun mm i wr => ∃ j : Nat, j ≤ n ∧ mm = n - j ∧ i = .int .i64 j ∧ Hid (Spoil S w1 wr))
  case atStart => exact ⟨0, Nat.zero_le _, rfl, rfl, Spoil.of_gr (Gr.rfl' _)⟩
  case round =>
    obtain ⟨j, hj, rfl, rfl, hsp⟩ := hrel
    have HBr := Lib.hid (HB.out.kp hsp.out.kp (fun h => by have := HS.out _ h; omega))
    have HFr := Lib.hid (HF.out.spoil hsp.out)
    have HSr : Hid (∀ b, S b → b < wr.heap.size) := fun b hb => by have := HS.out b hb; have := gA.size; have := hsp.out.kp.size; omega
    obtain ⟨⟨b0, b1, b2, b3⟩, _, _⟩ := HBr.out.parts
    by_cases hlt : j < n
    · rcases HFr.out with ⟨_, h0, _⟩ | ⟨b, cur, rfl, hb, hc, hn, hcn, h56, hel⟩
      · omega
      · obtain rfl := hcn.symm
        obtain ⟨k', m', s', q, n', c', e0, e1, e2, e3, hf'⟩ := hel j hlt
        have x0 := (cell_of_row wr b (j * 4) _ _ _ hc).trans e0
        have x1 := (cell_of_row wr b (j * 4 + 1) _ _ _ hc).trans e1
        have x2 := (cell_of_row wr b (j * 4 + 2) _ _ _ hc).trans e2
        have x3 := (cell_of_row wr b (j * 4 + 3) _ _ _ hc).trans e3
        have Hc := Lib.hid (ih S k' m' s' q n' c' wr HSr.out hf')
        clear hel e0 e1 e2 e3 hf' hc hn
        go_wp2_with (first
          | (go_at_call 28; refine Hc.out.mono ?_; rintro e w2 ⟨rfl, h2⟩; have hss := Lib.hid (hsp.out.trans h2))
          | fail)
        go_roundg (n - (j + 1))
        case measure => omega
        case rel => exact ⟨j + 1, by omega, rfl, by go_num, hss⟩
    · obtain rfl : j = n := by omega
      have HW := Lib.hid ((Spoil.of_gr gA).trans hsp.out)
      go_upto_region 6 with fail
      refine wp_region_rely_tail 3 [fx (.pointer (some ⟨w.heap.size, 3, none⟩)), fx (.slice p j c), fx markTm.val]
        (by kernel_rfl) (by kernel_rfl) (by decide) (by repeat (first | exact Stable.nil | refine Stable.fix ?_)) ?_ ?_
      · refine ⟨?_, ?_, ?a2, trivial⟩
        all_goals
          intro a wq hg hold
          have h1 : a.tmps[1]?.getD undef = .pointer (some ⟨w.heap.size, 0, none⟩) := hold 1 rfl
          clear hold
          have X3 := Gr.at hg b3
          clear b0 b1 b2 b3
          simp [predsImp, Region.binds, dstAt, fx]
          intros
          first
            | (rw [if_pos (by simp [*])]
               intro K hK)
            | (rename_i K hK)
          go_simp
        case a2 =>
          refine (mark_calls _).mono ?_
          rintro e w10 ⟨rfl, hg2⟩
          exact hK _ _ rfl hg2
        all_goals exact hK _ _ rfl (Gr.rfl' _)
      · intro wq hg
        rintro _ rfl _ rfl _ rfl
        have HWq := Lib.hid (HW.out.trans (Spoil.of_gr hg))
        have Hfin := Lib.hid (spoilt_calls (w := wq) (fun b hb => by have := HSr.out b hb; have := hg.size; omega) (HFr.out.spoil (Spoil.of_gr hg)))
        clear b0 b1 b2 b3
        simp only [finAll, Act.put, List.setIfInBounds_toArray, List.set_cons_succ, List.set_cons_zero, List.drop_succ_cons, List.drop_zero, List.take_zero]
        go_wp2_with (first
          | (go_at_call 91; refine Hfin.out.mono ?_; rintro e w2 ⟨rfl, h2⟩)
          | fail)
        go_end0
        exact hR.out _ (HWq.out.trans h2)

theorem spoilTerm_calls : ∀ (d : Nat) (S : Nat → Prop) (k m : Int) (s : ByteArray) (p : Option Addr) (n c : Nat) (w : World), (∀ b, S b → b < w.heap.size) → Fit S w d p n c → Calls Try.prog 28 #[.agg #[.int .i64 k, .int .i64 m, .string s, .slice p n c]] w (RetSpoil S w) := by
  intro d
  induction d with
  | zero => exact spoilTerm_zero
  | succ d ih => exact spoilTerm_succ d ih
end Go.Proofs.Ytmecghjnghhhkaa
