/-
  term.Binds: the walk.
  A map of terms: made, stored into.
  term.Compose: what it computes; the walk.
  slices.Grow, slices.Concat and slices.Insert where a base has its first clause.
  append of binds.
  The order of terms: a total one (plain).
-/
import Derived.Test.YteonakicoomjkaaTB12
import Derived.Test.YteonakicoomjkaaTB11
import Derived.Test.YteonakicoomjkaaTB06
import Derived.Test.YteonakicoomjkaaTB10
import Derived.Lib.AppendZeros
import Derived.Deep.LoopGhost
import Derived.Deep.CutRange
import Derived.Deep.CutBlock
import Derived.Deep.Light
import Derived.Test.YteonakicoomjkaaTB07
namespace Go.Proofs.Yteonakicoomjkaa
open Go.RowKit Go.Maps Go.Lib
open Go.ChangeMaps (setBlock)

set_option maxHeartbeats 4000000 in
set_option maxRecDepth 100000 in
theorem binds_calls {S : Nat → Prop} (b : Nat) (f : Int → Option T) (w : World) (hm : TMap S w b f) : Calls Try.prog 111 #[.map (some b)] w (RetBinds S f w) := by
  generalize hQ : RetBinds S f w = Q
  have HQ := Lib.hid hQ
  clear hQ
  obtain ⟨E, c, hb, hold, hbn, hkn, hent, hin⟩ := hm.entries
  have hr4 : ∀ n, f n ≠ none → 0 ≤ n ∧ n ≤ 1099511627776 := hm.2.2
  have hbl : b < w.heap.size := (Array.getElem?_eq_some_iff.1 hb).1
  have Hb := Lib.hid hb
  have Hold := Lib.hid hold
  have Hbn := Lib.hid hbn
  have Hkn := Lib.hid hkn
  have Hent := Lib.hid hent
  have Hin := Lib.hid hin
  have Hr4 := Lib.hid hr4
  clear hold hbn hkn hent hin hr4 hm
  have hrg0 := run_range_map (P := Try.prog) w 153 2 24 b E c Try.underlying153 hb
  go_enter Try.func111, Try.ntmps111
  try simp only [List.append_eq, List.cons_append, List.nil_append]
  go_wp2_with fail
  go_loopg [3] ((leftOf E #[]).size) (fun m v wr => ∃ (seen : Array Nat) (lo : List Bd), m = (leftOf E seen).size ∧ wr.heap[w.heap.size]? = some (.mapIter (some b) c seen c) ∧ BuiltBds wr (w.heap.size + 1) v lo ∧ Gr w wr ∧ w.heap.size < wr.heap.size ∧ Hid (Col f E seen lo) ∧ Hid (∀ y ∈ lo, y.t.In w ∧ y.t.On S ∧ y.t.erase.formed = true ∧ 0 ≤ y.v ∧ y.v ≤ 1099511627776))
  case atStart => exact ⟨#[], [], rfl, heap_alloc_new w _, World.ownsRow_nil _ _ _ 5, (by go_grown), (by simp), Col.start, fun y hy => nomatch hy⟩
  case round =>
    obtain ⟨seen, lo, rfl, hr, hrow, gr, hsz, hcol, hlo⟩ := hrel
    have hbr : wr.heap[b]? = some (.map E c) := (gr.block b hbl).trans Hb.out
    have Hrow := Lib.hid hrow
    clear hrow
    rcases run_next_at (P := Try.prog) wr 0 w.heap.size b c c seen E c hr hbr Hold.out (Nat.le_refl _) with ⟨h0, hnext⟩ | ⟨e, he, w1, hw1, hnext⟩
    · have Hall := Lib.hid (all_seen E seen h0)
      go_upto_region 7 with fail
      have Hlen := Lib.hid (Col.len hcol.out Hr4.out)
      go_wp2_with (first
        | (go_at_call 162; refine (sortBds_calls (w.heap.size + 1) _ lo wr Hrow.out Hlen.out hsz).mono ?_; rintro e w1 ⟨rfl, lo', hp, hs, hb1, hbw⟩; have Hend := Lib.hid (binds_ret hcol.out Hall.out Hin.out Hr4.out hlo.out hp hs hb1 (Below.trans gr (Below.mono hbw (Nat.le_succ _)))); clear hp hs hb1 hbw)
        | fail)
      try go_ret
      rw [← HQ.out]
      exact Hend.out
    · obtain ⟨hem, hes⟩ := mem_left he
      have hlt := left_shrinks E seen e he
      obtain ⟨hkp, hr2⟩ := kp_step (o' := .mapIter (some b) c (seen.push e.born) c) hr hw1
      generalize setBlock w1 w.heap.size (.mapIter (some b) c (seen.push e.born) c) = w2 at hnext hkp hr2
      have g2 : Gr w w2 := Kp.gr_at gr hkp (Nat.le_refl _)
      have hbr2 : w2.heap[b]? = some (.map E c) := (g2.block b hbl).trans Hb.out
      have hentry := run_entry_at (P := Try.prog) w2 w.heap.size b c seen E c e hr2 hbr2 hem Hbn.out
      have hsz2 : w.heap.size < w2.heap.size := Nat.lt_of_lt_of_le hsz hkp.size
      have Hrow2 := Lib.hid (BuiltBds.kp Hrow.out hkp (fun x hx h => by omega))
      obtain ⟨n, tm, hkey, hval, hfn, htin, hform, hton, hn0, hn1⟩ := Hent.out e hem
      have Htv := Lib.hid (show tm.val = .agg #[.int .i64 tm.k, .int .i64 tm.n, .string tm.s, .slice tm.p tm.l.length tm.c] from rfl)
      rw [hkey, hval, Htv.out] at hnext hentry
      simp only [kI64] at hnext hentry
      have Hem := Lib.hid hem
      have Hes := Lib.hid hes
      have Hkey := Lib.hid hkey
      have Hfn := Lib.hid hfn
      clear hem hes hkey hfn hval he hw1 hkp hr hbr
      go_upto_region 5 with fail
      have hB := BlkT.new w2 24 #[.int .i64 tm.k, .int .i64 tm.n, .string tm.s, .slice tm.p tm.l.length tm.c]
      have gB : Gr w2 (w2.alloc (.cells #[.int .i64 tm.k, .int .i64 tm.n, .string tm.s, .slice tm.p tm.l.length tm.c] 24)) := by go_grown
      generalize w2.alloc (.cells #[.int .i64 tm.k, .int .i64 tm.n, .string tm.s, .slice tm.p tm.l.length tm.c] 24) = wB at *
      have hrB : wB.heap[w.heap.size]? = some (.mapIter (some b) c (seen.push e.born) c) := (gB.block _ hsz2).trans hr2
      have grB : Gr w wB := g2.trans gB
      have hszB : w.heap.size < wB.heap.size := Nat.lt_of_lt_of_le hsz2 gB.size
      generalize w2.heap.size = H at *
      have HB := Lib.hid hB
      have HrB := Lib.hid hrB
      have HrowB := Lib.hid (Hrow2.out.gr gB)
      have Hvar := Lib.hid (var_iff hform n)
      clear hB hrB hr2 gB g2 hbr2 hentry hnext
      have t0 := HB.out.cell 0 (v := .int .i64 tm.k) rfl
      have t1 := HB.out.cell 1 (v := .int .i64 tm.n) rfl
      by_cases hv : tm.k = 1 ∧ tm.n = n
      · have Hcol := Lib.hid (Col.skip hcol.out Hbn.out Hem.out Hkey.out (by rw [Hfn.out, Hvar.out.2 hv]))
        obtain ⟨hv1, hv2⟩ := hv
        have hk1 : (tm.k != 1) = false := by simp [hv1]
        have hk2 : (tm.n != n) = false := by simp [hv2]
        clear hv1 hv2
        go_wp2_with fail
        go_roundg ((leftOf E (seen.push e.born)).size)
        case measure => exact hlt
        case rel => exact ⟨_, lo, rfl, HrB.out, HrowB.out, grB, hszB, Hcol.out, hlo.out⟩
      · have Hcol := Lib.hid (Col.snoc hcol.out Hbn.out Hkn.out Hem.out Hes.out Hkey.out Hfn.out (fun h => hv (Hvar.out.1 h)))
        have Hlen := Lib.hid (Col.len Hcol.out Hr4.out)
        have t2 := HB.out.cell 2 (v := .string tm.s) rfl
        have t3 := HB.out.cell 3 (v := .slice tm.p tm.l.length tm.c) rfl
        have Hlo := Lib.hid (show ∀ y ∈ lo ++ [Bd.mk n tm], y.t.In w ∧ y.t.On S ∧ y.t.erase.formed = true ∧ 0 ≤ y.v ∧ y.v ≤ 1099511627776 from fun y hy => by
          rcases List.mem_append.1 hy with hy | hy
          · exact hlo.out y hy
          · rw [List.mem_singleton] at hy
            subst hy
            exact ⟨htin, hton, hform, hn0, hn1⟩)
        have Hlen2 : (lo.length + 1) * 64 ≤ 140737488351232 := by
          have := Hlen.out
          rw [List.length_append, List.length_singleton] at this
          omega
        have Hgo := Lib.hid (show ∀ w4 v', BuiltBds w4 (w.heap.size + 1) v' (lo ++ [⟨n, tm⟩]) → Below (w.heap.size + 1) wB w4 → ∃ (seen' : Array Nat) (lo' : List Bd), (leftOf E (seen.push e.born)).size = (leftOf E seen').size ∧ w4.heap[w.heap.size]? = some (.mapIter (some b) c seen' c) ∧ BuiltBds w4 (w.heap.size + 1) v' lo' ∧ Gr w w4 ∧ w.heap.size < w4.heap.size ∧ Hid (Col f E seen' lo') ∧ Hid (∀ y ∈ lo', y.t.In w ∧ y.t.On S ∧ y.t.erase.formed = true ∧ 0 ≤ y.v ∧ y.v ≤ 1099511627776) from fun w4 v' h1 h2 =>
          ⟨_, _, rfl, (h2.block _ (Nat.lt_succ_self _)).trans HrB.out, h1, Below.trans grB (Below.mono h2 (Nat.le_succ _)), Nat.lt_of_lt_of_le hszB h2.size, Hcol, Hlo⟩)
        have Hor : Hid (tm.k ≠ 1 ∨ tm.n ≠ n) := by
          show _ ∨ _
          by_cases h1 : tm.k = 1
          · exact .inr fun h2 => hv ⟨h1, h2⟩
          · exact .inl h1
        clear hv
        rcases Hor.out with h1 | h1
        · have hk1 : (tm.k != 1) = true := by simp [h1]
          clear h1
          go_wp2_with (first
            | (refine wpList_append_bd rfl _ _ rfl rfl (w.heap.size + 1) _ lo ⟨n, tm⟩ wB.heap.size 1 (by rfl) (by rfl) (HrowB.out.gr (by go_grown)) (by simp; omega) Hlen2 (BlkT.new wB _ _) ?_
               intro v' w4 h2 h3 h4)
            | fail)
          go_roundg ((leftOf E (seen.push e.born)).size)
          case measure => exact hlt
          case rel => exact Hgo.out w4 v' h2 (Below.trans (Below.mono (show Gr wB _ by go_grown) hszB) (grownBy_below h3 (by simp; omega) fun b hb => HrowB.out.ge hb))
        · cases hk1 : (tm.k != 1) with
          | true =>
            clear h1
            go_wp2_with (first
              | (refine wpList_append_bd rfl _ _ rfl rfl (w.heap.size + 1) _ lo ⟨n, tm⟩ wB.heap.size 1 (by rfl) (by rfl) (HrowB.out.gr (by go_grown)) (by simp; omega) Hlen2 (BlkT.new wB _ _) ?_
                 intro v' w4 h2 h3 h4)
              | fail)
            go_roundg ((leftOf E (seen.push e.born)).size)
            case measure => exact hlt
            case rel => exact Hgo.out w4 v' h2 (Below.trans (Below.mono (show Gr wB _ by go_grown) hszB) (grownBy_below h3 (by simp; omega) fun b hb => HrowB.out.ge hb))
          | false =>
            have hk2 : (tm.n != n) = true := by simp [h1]
            clear h1
            go_wp2_with (first
              | (refine wpList_append_bd rfl _ _ rfl rfl (w.heap.size + 1) _ lo ⟨n, tm⟩ wB.heap.size 1 (by rfl) (by rfl) (HrowB.out.gr (by go_grown)) (by simp; omega) Hlen2 (BlkT.new wB _ _) ?_
                 intro v' w4 h2 h3 h4)
              | fail)
            go_roundg ((leftOf E (seen.push e.born)).size)
            case measure => exact hlt
            case rel => exact Hgo.out w4 v' h2 (Below.trans (Below.mono (show Gr wB _ by go_grown) hszB) (grownBy_below h3 (by simp; omega) fun b hb => HrowB.out.ge hb))
end Go.Proofs.Yteonakicoomjkaa

namespace Go.Proofs.Yteonakicoomjkaa
open Go.RowKit Go.Maps Go.Lib

theorem TMap.made (S : Nat → Prop) (w : World) : TMap S (w.alloc (.map #[] 0)) w.heap.size (fun _ => none) :=
  ⟨⟨fun _ => none, ⟨#[], 0, heap_alloc_new _ _, (fun _ he => nomatch he), List.nodup_nil, fun _ _ => ⟨fun h => (nomatch h), fun ⟨_, he, _⟩ => nomatch he⟩⟩, fun _ => rfl⟩, Stm.made kI64 w, fun _ h => absurd rfl h⟩

theorem TMap.store {S : Nat → Prop} {w : World} {b : Nat} {f : Int → Option T} (h : TMap S w b f) (hb : ∀ x, S x → x ≠ b) {n : Int} (hn : 0 ≤ n ∧ n ≤ 1099511627776) {tm : Tm} (hin : tm.In w) (hf : tm.erase.formed = true) (hon : tm.On S) :
    ∃ w', (Instr.mapUpdate 153 (.map (some b)) (.int .i64 n) tm.val).run Try.prog w = .ok () w' ∧ TMap S w' b (fun x => if x = n then some tm.erase else f x) ∧ w.grownBy w' (some b) := by
  obtain ⟨⟨g, h1, h2⟩, h3, h4⟩ := h
  obtain ⟨w', hr, hg, hgb, hs⟩ := h1.updateS h3 (int_keyed Try.underlying2) Try.underlying153 (x := n) (keyOf_int_mk Try.underlying2 (wf_64 (by constructor <;> omega))) (fun y hy => kI64_inj hy) tm.val (g := fun x => if x = n then some tm.val else g x) (if_pos rfl) (fun y hy => if_neg hy)
  have hk : Kp (· = b) w w' := Kp.of_grownBy hgb rfl
  refine ⟨w', hr, ⟨⟨_, hg, fun x => ?_⟩, hs, fun x hx => ?_⟩, hgb⟩
  · by_cases hx : x = n
    · simp only [if_pos hx]
      exact ⟨tm, rfl, in_after' hin hon fun y hy hl _ => World.cell?_of_block (hk.block y hl (hb y hy)), rfl, hf, hon⟩
    · simp only [if_neg hx]
      have := h2 x
      cases hfx : f x with
      | none => rw [hfx] at this; exact this
      | some t =>
        rw [hfx] at this
        obtain ⟨u, i1, i2, i3, i4, i5⟩ := this
        exact ⟨u, i1, in_after' i2 i5 fun y hy hl _ => World.cell?_of_block (hk.block y hl (hb y hy)), i3, i4, i5⟩
  · by_cases hxn : x = n
    · subst hxn; exact hn
    · exact h4 x (by simpa [hxn] using hx)
end Go.Proofs.Yteonakicoomjkaa

namespace Go.Proofs.Yteonakicoomjkaa
open Go.RowKit Go.Maps Go.Lib

/-- Binds laid into a map, one after another. -/
def putAll (g : Bd → T) (l : List Bd) (f : Int → Option T) : Int → Option T := l.foldl (fun f y => fun x => if x = y.v then some (g y) else f x) f
/-- P4: the map of a composition. -/
def compM (s u : List Bd) : Int → Option T := putAll (fun y => T.map (lookupT u) y.t.erase) s (putAll (fun y => y.t.erase) u (fun _ => none))
def compErr (s u : List Bd) : Int := if bindsErr s = 2 ∨ bindsErr u = 2 then 2 else if bindsErr s ≠ 0 ∨ bindsErr u ≠ 0 then 1 else 0

theorem putAll_snoc (g : Bd → T) (l : List Bd) (f : Int → Option T) (k : Nat) (hk : k < l.length) : putAll g (l.take (k + 1)) f = fun x => if x = l[k].v then some (g l[k]) else putAll g (l.take k) f x := by
  rw [List.take_succ_eq_append_getElem hk, putAll, List.foldl_append]
  rfl
theorem lookup_formed {l : List Bd} (hf : (l.all fun y => y.t.erase.formed) = true) : ∀ n, 0 ≤ n → n ≤ 1099511627776 → (lookupT l n).formed = true := by
  induction l with
  | nil => intro n h1 h2; simp [lookupT, varT, T.formed, h1, h2]
  | cons x xs ih =>
    intro n h1 h2
    rw [List.all_cons, Bool.and_eq_true] at hf
    rw [lookupT]
    by_cases h : x.v = n
    · rw [if_pos h]; exact hf.1
    · rw [if_neg h]; exact ih hf.2 n h1 h2
theorem bindsErr_zero {l : List Bd} (h : bindsErr l = 0) : (l.all fun y => y.t.erase.formed) = true ∧ ascB (-1) l = true := by
  rw [bindsErr] at h
  by_cases h1 : (l.all fun y => y.t.erase.formed) = true
  · rw [if_pos h1] at h
    by_cases h2 : ascB (-1) l = true
    · exact ⟨h1, h2⟩
    · rw [if_neg h2] at h; cases h
  · rw [if_neg h1] at h; cases h
theorem formed_at {l : List Bd} (hf : (l.all fun y => y.t.erase.formed) = true) (k : Nat) (hk : k < l.length) : l[k].t.erase.formed = true := List.all_eq_true.1 hf _ (List.getElem_mem hk)
theorem asc_at {l : List Bd} (h : ascB (-1) l = true) (k : Nat) (hk : k < l.length) : 0 ≤ l[k].v ∧ l[k].v ≤ 1099511627776 := by
  have := (asc_spec l (-1) h).1 k hk
  omega

/-- Compose: an errno with nothing, or the binds of the map. -/
def RetComp (s u : List Bd) (w : World) (e : Ending) (w' : World) : Prop :=
  ∃ p c l, e = .returned (.tuple #[.slice p l.length c, .int .i64 (compErr s u)]) ∧ (Bds.mk p c l).In w' ∧ Gr w w' ∧ (compErr s u ≠ 0 → l = []) ∧ (compErr s u = 0 → IsBinds (compM s u) l)
theorem comp_err {s u : List Bd} {w w' : World} {e : Int} (he : compErr s u = e) (h0 : e ≠ 0) (hg : Gr w w') : RetComp s u w (.returned (.tuple #[.slice none 0 0, .int .i64 e])) w' :=
  ⟨none, 0, [], by rw [he]; rfl, ⟨Nat.le_refl _, ⟨by simp, by simp⟩, .inl rfl, fun y hy => nomatch hy⟩, hg, fun _ => rfl, fun h => absurd (he.symm.trans h) h0⟩
theorem bindsErr_cases3 (l : List Bd) : bindsErr l = 0 ∨ bindsErr l = 1 ∨ bindsErr l = 2 := by
  rw [bindsErr]; repeat' split
  all_goals simp
end Go.Proofs.Yteonakicoomjkaa

namespace Go.Proofs.Yteonakicoomjkaa
open Go.RowKit Go.Maps Go.Lib

/-- append of nothing. -/
theorem run_append_empty {P : Program} (w : World) (t ty e : TypeId) (i : TypeInfo) (ht : P.underlying t = some (.slice e)) (hi : P.info? e = some i) (q : Option Addr) (k cp : Nat) (p : Option Addr) (c : Nat) (hk : k ≤ cp) :
    (Builtin.append_ #[t, t] ty #[.slice q k cp, .slice p 0 c]).run P w = .ok (.slice q k cp) w := by
  have h0 : (Builtin.firstCells i.size 0 (.slice p 0 c)).run P w = .ok #[] w := by
    cases p with
    | none => exact run_firstCells_none w _ _ _ _
    | some a => exact run_firstCells_some w i.size 0 a 0 c [] (by simp) (by simp)
  cases q <;> simp [Builtin.append_, run_underlying ht, Go.sizeOf, typeInfo, hi, hk, h0, Builtin.lenOf, storeCells]

theorem infoHeld : (Try.prog.info? 143).map (fun i => (i.zero, i.size, i.bytes)) = some (some (.agg #[.int .i64 0, .int .i64 0, .int .i64 0, .string ⟨#[]⟩, .slice none 0 0, .int .i64 0, .int .i64 0, .string ⟨#[]⟩, .slice none 0 0]), 9, 120) := by kernel_rfl
abbrev HD : TypeId := 143

set_option maxHeartbeats 1000000 in
set_option maxRecDepth 100000 in
theorem grow_calls (w : World) : Calls Try.prog 156 #[.slice none 0 0, .int .i64 1] w fun e w' => ∃ v, e = .returned v ∧ w'.ownsRow w.heap.size 143 9 v 0 [] ∧ Gr w w' := by
  obtain ⟨i0, hi, hz0, hz1, hz2⟩ := info_parts infoHeld
  have hr := run_append_nil_zeros (P := Try.prog) w 140 3 140 143 i0 _ .i64 .i64 Try.underlying140 Try.underlying3 hi hz0 1 (by decide) (by omega) (by decide) (by omega)
  have hge : 1 ≤ grownCap w 1 0 143 := grownCap_ge w 1 0 _
  have hcm : grownCap w 1 0 143 ≤ maxLen := grownCap_le_maxLen w 1 0 _ (by decide)
  generalize grownCap w 1 0 143 = C at *
  generalize hw1 : w.drew.alloc _ = w1 at hr
  have hown : w1.ownsRow w.heap.size 143 9 (.slice (some ⟨w.heap.size, 0, none⟩) 0 C) 0 [] := by
    rw [← hw1]
    refine ⟨by simp, .inr ⟨w.heap.size, C, _, rfl, Nat.le_refl _, heap_alloc_new w.drew _, Nat.zero_le _, hcm, ?_, by simp⟩⟩
    have h9 : (Value.agg #[.int .i64 0, .int .i64 0, .int .i64 0, .string ⟨#[]⟩, .slice none 0 0, .int .i64 0, .int .i64 0, .string ⟨#[]⟩, .slice none 0 0]).cells.size = 9 := rfl
    rw [Array.size_append, size_zeroCells, size_zeroCells, h9]
    omega
  have hgr : Gr w w1 := by rw [← hw1]; go_grown
  clear hw1
  have Hr := Lib.hid hr
  generalize hQ : (fun (e : Ending) (w' : World) => ∃ v, e = .returned v ∧ w'.ownsRow w.heap.size 143 9 v 0 [] ∧ Gr w w') = Q
  have hR : Hid (∀ v, w1.ownsRow w.heap.size 143 9 v 0 [] → Q (.returned v) w1) := fun v h => by rw [← hQ]; exact ⟨v, rfl, h, hgr⟩
  have Ho := Lib.hid hown
  clear hQ hr hown hgr hi hz0 hz1 hz2 hge hcm i0
  go_enter Try.func156, Try.ntmps156
  go_wp2_with (first
    | (refine wpList_append_run w rfl _ _ _ _ rfl _ _ (by rfl) (by rfl) _ _ Hr.out ?_)
    | fail)
  exact hR.out _ Ho.out

end Go.Proofs.Yteonakicoomjkaa

namespace Go.Proofs.Yteonakicoomjkaa
open Go.RowKit Go.Maps Go.Lib

theorem append_bds (w : World) (B : Nat) (v : Value) (l : List Bd) (p : Option Addr) (c : Nat) (s : List Bd) (hs : (Bds.mk p c s).In w) (h : BuiltBds w B v l) (hB : B ≤ w.heap.size) (hl : (l.length + s.length) * 64 ≤ 140737488351232) :
    ∃ v' w', (Builtin.append_ #[58, 58] 58 #[v, .slice p s.length c]).run Try.prog w = .ok v' w' ∧ BuiltBds w' B v' (l ++ s) ∧ w.grownBy w' v.ownBlock ∧ (v'.ownBlock = v.ownBlock ∨ v'.ownBlock = some w.heap.size) := by
  obtain ⟨i0, hi, hz0, hz1, hz2⟩ := info_parts infoBd
  by_cases h0 : s = []
  · subst h0
    rcases h.2 with ⟨rfl, h1⟩ | ⟨g, cap, cur, rfl, hg0, hg, hnc, hr⟩
    · refine ⟨_, w, run_append_empty w _ _ _ i0 Try.underlying58 hi none 0 0 p c (Nat.le_refl _), by simpa using h, ⟨rfl, rfl, rfl, Nat.le_refl _, fun _ _ _ => rfl⟩, .inl rfl⟩
    · refine ⟨_, w, run_append_empty w _ _ _ i0 Try.underlying58 hi _ l.length cap p c hnc, by simpa using h, ⟨rfl, rfl, rfl, Nat.le_refl _, fun _ _ _ => rfl⟩, .inl rfl⟩
  · have hpos : 0 < s.length := List.length_pos_iff.2 h0
    obtain ⟨b, o, rfl⟩ := hs.ptr hpos
    obtain ⟨v', w', hr, h2, h3, h4⟩ := run_append_own_fresh (P := Try.prog) w B 58 58 75 i0 _ 5 64 Try.underlying58 hi hz0 hz1 hz2 rfl (by decide) v l.length (l.flatMap Bd.cells) h
      ⟨b, o, none⟩ s.length c (s.flatMap Bd.cells) (bdcells_len s) (by
        intro j u hu
        rw [Go.WideShapes.add_plain]
        have hj : j < s.length * 5 := by have := (List.getElem?_eq_some_iff.1 hu).1; rwa [bdcells_len] at this
        have hi' : j / 5 < s.length := by omega
        obtain ⟨⟨c0, c1, c2, c3, c4⟩, _⟩ := hs.elem (j / 5) hi'
        have h5 := bdcells_at (List.getElem?_eq_getElem hi') (j % 5) (by omega)
        rw [show j / 5 * 5 + j % 5 = j by omega, hu] at h5
        rw [show o + j = o + j / 5 * 5 + j % 5 by omega]
        have hm : j % 5 < 5 := by omega
        match hj5 : j % 5, hm with
        | 0, _ => rw [hj5] at h5; rw [h5]; exact c0
        | 1, _ => rw [hj5] at h5; rw [h5]; exact c1
        | 2, _ => rw [hj5] at h5; rw [h5]; exact c2
        | 3, _ => rw [hj5] at h5; rw [h5]; exact c3
        | 4, _ => rw [hj5] at h5; rw [h5]; exact c4) (by
        intro u hu
        obtain ⟨y, hy, hu⟩ := List.mem_flatMap.1 hu
        simp only [Bd.cells, Tm.cells, List.mem_cons, List.mem_nil_iff, or_false] at hu
        rcases hu with rfl | rfl | rfl | rfl | rfl <;> rfl) (by simp only [maxLen]; omega) (by omega) hB (by omega)
    refine ⟨v', w', hr, ?_, h3, h4⟩
    show w'.ownsRow B _ 5 v' _ _
    rw [List.length_append, List.flatMap_append]
    exact h2
end Go.Proofs.Yteonakicoomjkaa

namespace Go.Proofs.Yteonakicoomjkaa

def lex (x y : Int) : Int := if x = 0 then y else x

/-- Three comparisons that fit. -/
structure Tri (x y z : Int) : Prop where
  le : x ≤ 0 → y ≤ 0 → z ≤ 0 ∧ (z = 0 → x = 0 ∧ y = 0)
  l : x = 0 → z = y
  r : y = 0 → z = x

theorem Tri.lex {x y z x' y' z' : Int} (h : Tri x y z) (h' : x = 0 → y = 0 → Tri x' y' z') : Tri (lex x x') (lex y y') (lex z z') := by
  unfold Go.Proofs.Yteonakicoomjkaa.lex
  by_cases hx : x = 0
  · have hz := h.l hx
    by_cases hy : y = 0
    · have hz0 : z = 0 := by omega
      rw [if_pos hx, if_pos hy, if_pos hz0]
      exact h' hx hy
    · rw [if_pos hx, if_neg hy, if_neg (by omega), hz]
      exact ⟨fun _ h2 => ⟨h2, fun h3 => absurd h3 hy⟩, fun _ => rfl, fun h2 => absurd h2 hy⟩
  · by_cases hy : y = 0
    · have hz := h.r hy
      rw [if_neg hx, if_pos hy, if_neg (by omega), hz]
      exact ⟨fun h1 _ => ⟨h1, fun h3 => absurd h3 hx⟩, fun h1 => absurd h1 hx, fun _ => rfl⟩
    · rw [if_neg hx, if_neg hy]
      refine ⟨fun h1 h2 => ?_, fun h1 => absurd h1 hx, fun h2 => absurd h2 hy⟩
      obtain ⟨h3, h4⟩ := h.le h1 h2
      have hz : z ≠ 0 := fun e => hx (h4 e).1
      rw [if_neg hz]
      exact ⟨h3, fun e => absurd e hz⟩

theorem cmpI_tri (a b c : Int) : Tri (cmpI a b) (cmpI b c) (cmpI a c) := by
  unfold cmpI
  constructor <;> (split <;> split <;> split <;> (try split) <;> (try split) <;> (try split) <;> omega)

theorem cmpI_neg (a b : Int) : cmpI b a = -cmpI a b := by
  unfold cmpI
  split <;> split <;> (try split) <;> omega

theorem cmpI_range (a b : Int) : -1 ≤ cmpI a b ∧ cmpI a b ≤ 1 := by
  unfold cmpI
  split <;> (try split) <;> omega

theorem cmpI_zero {a b : Int} : cmpI a b = 0 ↔ a = b := by
  unfold cmpI
  constructor
  · intro h; split at h <;> (try split at h) <;> omega
  · rintro rfl; simp

def cb1 (a b : UInt8) : Int := if a < b then -1 else if b < a then 1 else 0
theorem cb1_eq (a b : UInt8) : cb1 a b = cmpI a.toNat b.toNat := by
  unfold cb1 cmpI
  simp only [UInt8.lt_iff_toNat_lt]
  split <;> split <;> (try split) <;> (try split) <;> omega

theorem cb_cons (a b : UInt8) (x y : List UInt8) : Lib.compareBytes (a :: x) (b :: y) = lex (cb1 a b) (Lib.compareBytes x y) := by
  rw [Lib.compareBytes, lex, cb1]
  split
  · rfl
  · split <;> rfl

theorem cb_tri : ∀ a b c : List UInt8, Tri (Lib.compareBytes a b) (Lib.compareBytes b c) (Lib.compareBytes a c)
  | [], [], [] => by simp only [Lib.compareBytes]; constructor <;> omega
  | [], [], _ :: _ => by simp only [Lib.compareBytes]; constructor <;> omega
  | [], _ :: _, [] => by simp only [Lib.compareBytes]; constructor <;> omega
  | _ :: _, [], [] => by simp only [Lib.compareBytes]; constructor <;> omega
  | _ :: _, [], _ :: _ => by
    have h1 : ∀ a b : List UInt8, -1 ≤ Lib.compareBytes a b ∧ Lib.compareBytes a b ≤ 1 := fun a b => by
      induction a generalizing b with
      | nil => cases b <;> simp [Lib.compareBytes]
      | cons x xs ih =>
        cases b with
        | nil => simp [Lib.compareBytes]
        | cons y ys =>
          rw [Lib.compareBytes]
          have := ih ys
          split <;> (try split) <;> omega
    simp only [Lib.compareBytes.eq_2, Lib.compareBytes.eq_3]
    constructor <;> omega
  | [], x :: xs, y :: ys => by
    simp only [Lib.compareBytes.eq_2]
    constructor <;> omega
  | x :: xs, y :: ys, [] => by
    simp only [Lib.compareBytes.eq_3]
    constructor <;> omega
  | a :: x, b :: y, c :: z => by
    rw [cb_cons, cb_cons, cb_cons]
    refine Tri.lex ?_ fun _ _ => cb_tri x y z
    rw [cb1_eq, cb1_eq, cb1_eq]
    exact cmpI_tri _ _ _

theorem lex_neg {x y x' y' : Int} (h : y = -x) (h' : y' = -x') : lex y y' = -lex x x' := by
  unfold lex
  split <;> split <;> omega

theorem lex_range {x y : Int} (h : -1 ≤ x ∧ x ≤ 1) (h' : -1 ≤ y ∧ y ≤ 1) : -1 ≤ lex x y ∧ lex x y ≤ 1 := by
  unfold lex
  split <;> assumption

theorem lex_zero {x y : Int} : lex x y = 0 ↔ x = 0 ∧ y = 0 := by
  unfold lex
  split <;> constructor <;> omega

theorem cb_neg : ∀ a b : List UInt8, Lib.compareBytes b a = -Lib.compareBytes a b
  | [], [] => by simp [Lib.compareBytes]
  | [], _ :: _ => by simp [Lib.compareBytes]
  | _ :: _, [] => by simp [Lib.compareBytes]
  | a :: x, b :: y => by
    rw [cb_cons, cb_cons]
    exact lex_neg (by rw [cb1_eq, cb1_eq, cmpI_neg]) (cb_neg x y)

theorem cb_range : ∀ a b : List UInt8, -1 ≤ Lib.compareBytes a b ∧ Lib.compareBytes a b ≤ 1
  | [], [] => by simp [Lib.compareBytes]
  | [], _ :: _ => by simp [Lib.compareBytes]
  | _ :: _, [] => by simp [Lib.compareBytes]
  | a :: x, b :: y => by
    rw [cb_cons]
    exact lex_range (by rw [cb1_eq]; exact cmpI_range _ _) (cb_range x y)

theorem cb_zero : ∀ a b : List UInt8, Lib.compareBytes a b = 0 ↔ a = b
  | [], [] => by simp [Lib.compareBytes]
  | [], _ :: _ => by simp [Lib.compareBytes]
  | _ :: _, [] => by simp [Lib.compareBytes]
  | a :: x, b :: y => by
    rw [cb_cons, lex_zero, cb1_eq, cmpI_zero, cb_zero x y, List.cons.injEq]
    constructor
    · rintro ⟨h1, h2⟩; exact ⟨by rw [← UInt8.toNat_inj]; omega, h2⟩
    · rintro ⟨h1, h2⟩; exact ⟨by rw [h1], h2⟩

theorem order_eq (k n : Int) (s : List UInt8) (l : List T) (k' n' : Int) (s' : List UInt8) (l' : List T) :
    T.order (.mk k n s l) (.mk k' n' s' l') = lex (cmpI k k') (if k = 3 then Lib.compareBytes s s' else if k = 4 then lex (lex (cmpI l.length l'.length) (Lib.compareBytes s s')) (T.orderL l l') else cmpI n n') := by
  rw [T.order]
  unfold lex
  by_cases h : k = k'
  · rw [if_pos h, if_pos (cmpI_zero.2 h)]
  · rw [if_neg h, if_neg (fun e => h (cmpI_zero.1 e))]

mutual
theorem order_tri : ∀ a b c : T, Tri (T.order a b) (T.order b c) (T.order a c)
  | .mk k n s l, .mk k' n' s' l', .mk k'' n'' s'' l'' => by
    rw [order_eq, order_eq, order_eq]
    refine Tri.lex (cmpI_tri _ _ _) fun h1 h2 => ?_
    have e1 := cmpI_zero.1 h1
    have e2 := cmpI_zero.1 h2
    subst e1 e2
    by_cases h3 : k = 3
    · simp only [if_pos h3]
      exact cb_tri _ _ _
    simp only [if_neg h3]
    by_cases h4 : k = 4
    · simp only [if_pos h4]
      refine Tri.lex (Tri.lex (cmpI_tri _ _ _) fun _ _ => cb_tri _ _ _) fun _ _ => orderL_tri l l' l''
    · simp only [if_neg h4]
      exact cmpI_tri _ _ _
theorem orderL_tri : ∀ a b c : List T, Tri (T.orderL a b) (T.orderL b c) (T.orderL a c)
  | [], [], [] => by simp only [T.orderL]; constructor <;> omega
  | [], [], _ :: _ => by simp only [T.orderL]; constructor <;> omega
  | [], _ :: _, [] => by simp only [T.orderL]; constructor <;> omega
  | _ :: _, [], [] => by simp only [T.orderL]; constructor <;> omega
  | x :: xs, [], y :: ys => by simp only [T.orderL]; constructor <;> omega
  | [], x :: xs, y :: ys => by simp only [T.orderL]; constructor <;> omega
  | x :: xs, y :: ys, [] => by simp only [T.orderL]; constructor <;> omega
  | a :: x, b :: y, c :: z => by
    have h := Tri.lex (order_tri a b c) fun _ _ => orderL_tri x y z
    simp only [T.orderL]
    exact h
end

mutual
theorem order_neg : ∀ a b : T, T.order b a = -T.order a b
  | .mk k n s l, .mk k' n' s' l' => by
    rw [order_eq, order_eq]
    by_cases h : k = k'
    · subst h
      refine lex_neg (cmpI_neg _ _) ?_
      by_cases h3 : k = 3
      · simp only [if_pos h3]; exact cb_neg _ _
      simp only [if_neg h3]
      by_cases h4 : k = 4
      · simp only [if_pos h4]
        exact lex_neg (lex_neg (cmpI_neg _ _) (cb_neg _ _)) (orderL_neg l l')
      · simp only [if_neg h4]; exact cmpI_neg _ _
    · unfold lex
      rw [if_neg (fun e => h (cmpI_zero.1 e)), if_neg (fun e => h (cmpI_zero.1 e).symm), cmpI_neg]
theorem orderL_neg : ∀ a b : List T, T.orderL b a = -T.orderL a b
  | [], [] => by simp [T.orderL]
  | [], _ :: _ => by simp [T.orderL]
  | _ :: _, [] => by simp [T.orderL]
  | a :: x, b :: y => by
    have h := lex_neg (order_neg a b) (orderL_neg x y)
    simp only [T.orderL]
    exact h
end

mutual
theorem order_range : ∀ a b : T, -1 ≤ T.order a b ∧ T.order a b ≤ 1
  | .mk k n s l, .mk k' n' s' l' => by
    rw [order_eq]
    refine lex_range (cmpI_range _ _) ?_
    by_cases h3 : k = 3
    · simp only [if_pos h3]; exact cb_range _ _
    simp only [if_neg h3]
    by_cases h4 : k = 4
    · simp only [if_pos h4]; exact lex_range (lex_range (cmpI_range _ _) (cb_range _ _)) (orderL_range l l')
    · simp only [if_neg h4]; exact cmpI_range _ _
theorem orderL_range : ∀ a b : List T, -1 ≤ T.orderL a b ∧ T.orderL a b ≤ 1
  | [], [] => by simp [T.orderL]
  | [], _ :: _ => by simp [T.orderL]
  | _ :: _, [] => by simp [T.orderL]
  | a :: x, b :: y => by
    have h := lex_range (order_range a b) (orderL_range x y)
    simp only [T.orderL]
    exact h
end

mutual
theorem same_iff : ∀ a b : T, T.same a b = true ↔ a = b
  | .mk k n s l, .mk k' n' s' l' => by
    rw [T.same]
    simp only [Bool.and_eq_true, decide_eq_true_eq, T.mk.injEq]
    constructor
    · rintro ⟨⟨⟨⟨h1, h2⟩, h3⟩, h4⟩, h5⟩; exact ⟨h1, h2, h3, (sameL_iff l l' h4).1 h5⟩
    · rintro ⟨h1, h2, h3, h4⟩; exact ⟨⟨⟨⟨h1, h2⟩, h3⟩, by rw [h4]⟩, (sameL_iff l l' (by rw [h4])).2 h4⟩
theorem sameL_iff : ∀ a b : List T, a.length = b.length → (T.sameL a b = true ↔ a = b)
  | [], [], _ => by simp [T.sameL]
  | [], _ :: _, h => by simp at h
  | _ :: _, [], h => by simp at h
  | a :: x, b :: y, h => by
    rw [T.sameL, Bool.and_eq_true, same_iff a b, sameL_iff x y (by simpa using h), List.cons.injEq]
end

mutual
theorem order_zero : ∀ a b : T, a.formed = true → b.formed = true → (T.order a b = 0 ↔ a = b)
  | .mk k n s l, .mk k' n' s' l', ha, hb => by
    rw [order_eq, lex_zero, cmpI_zero, T.mk.injEq]
    by_cases hk : k = k'
    · subst hk
      rw [T.formed] at ha hb
      by_cases h1 : k = 1
      · subst h1
        simp at ha hb
        simp [cmpI_zero, ha, hb]
      by_cases h2 : k = 2
      · subst h2
        simp at ha hb
        simp [cmpI_zero, ha, hb]
      by_cases h3 : k = 3
      · subst h3
        simp at ha hb
        simp [cb_zero, ha, hb]
      by_cases h4 : k = 4
      · subst h4
        simp at ha hb
        simp only [show ¬ (4 : Int) = 3 by decide, if_false, if_true, lex_zero, cmpI_zero, cb_zero, true_and]
        constructor
        · rintro ⟨⟨e1, e2⟩, e3⟩
          exact ⟨by rw [ha.1.1.1.1, hb.1.1.1.1], e2, (orderL_zero l l' ha.2 hb.2).1 e3⟩
        · rintro ⟨e1, e2, e3⟩
          exact ⟨⟨by rw [e3], e2⟩, (orderL_zero l l' ha.2 hb.2).2 e3⟩
      · simp [h1, h2, h3, h4] at ha
    · constructor
      · rintro ⟨e, _⟩; exact absurd e hk
      · rintro ⟨e, _⟩; exact absurd e hk
theorem orderL_zero : ∀ a b : List T, T.formedL a = true → T.formedL b = true → (T.orderL a b = 0 ↔ a = b)
  | [], [], _, _ => by simp [T.orderL]
  | [], _ :: _, _, _ => by simp [T.orderL]
  | _ :: _, [], _, _ => by simp [T.orderL]
  | a :: x, b :: y, ha, hb => by
    rw [T.formedL, Bool.and_eq_true] at ha hb
    have h1 := order_zero a b ha.1 hb.1
    have h2 := orderL_zero x y ha.2 hb.2
    have h : T.orderL (a :: x) (b :: y) = lex (T.order a b) (T.orderL x y) := by simp only [T.orderL]; rfl
    rw [h, lex_zero, h1, h2, List.cons.injEq]
end
end Go.Proofs.Yteonakicoomjkaa
