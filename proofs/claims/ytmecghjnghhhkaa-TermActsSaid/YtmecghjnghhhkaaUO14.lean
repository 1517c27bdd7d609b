/-
  term.Binds: the walk.
  A map of terms: made, stored into.
  term.Compose: what it computes; the walk.
  hornref.Compose, plain: a bind is put where it belongs; two lists of binds of one map say the same.
  A store, plain: what its variables come to; a bind more; lists of binds of a solved form.
-/
import Derived.Test.YtmecghjnghhhkaaUO13
import Derived.Test.YtmecghjnghhhkaaUO12
import Derived.Test.YtmecghjnghhhkaaUO05
import Derived.Test.YtmecghjnghhhkaaUO06
import Derived.Test.YtmecghjnghhhkaaUO07
namespace Go.Proofs.Ytmecghjnghhhkaa
open Go.RowKit Go.Maps Go.Lib
open Go.ChangeMaps (setBlock)

set_option maxHeartbeats 4000000 in
set_option maxRecDepth 100000 in
theorem binds_calls {S : Nat → Prop} (b : Nat) (f : Int → Option T) (w : World) (hm : TMap S w b f) : Calls Try.prog 105 #[.map (some b)] w (RetBinds S f w) := by
  generalize hQ : RetBinds S f w = Q
  have HQ := Lib.hid hQ
  clear hQ
  obtain ⟨E, c, hb, hold, hbn, hkn, hent, hin⟩ := hm.entries
  have hr4 : ∀ n, f n ≠ none → 0 ≤ n ∧ n ≤ 1099511627776 := hm.2.2
  have hbl : b < w.heap.size := (Array.getElem?_eq_some_iff.1 hb).1
  have Hb := Lib.hid hb
  have Hold := Lib.hid hold
  have Hbn := Lib.hid hbn
  have Hkn := Lib.hid hkn
  have Hent := Lib.hid hent
  have Hin := Lib.hid hin
  have Hr4 := Lib.hid hr4
  clear hold hbn hkn hent hin hr4 hm
  have hrg0 := run_range_map (P := Try.prog) w 115 2 27 b E c Try.underlying115 hb
  go_enter Try.func105, Try.ntmps105
  try simp only [List.append_eq, List.cons_append, List.nil_append]
  go_wp2_with fail
  go_loopg [3] ((leftOf E #[]).size) (fun m v wr => ∃ (seen : Array Nat) (lo : List Bd), m = (leftOf E seen).size ∧ wr.heap[w.heap.size]? = some (.mapIter (some b) c seen c) ∧ BuiltBds wr (w.heap.size + 1) v lo ∧ Gr w wr ∧ w.heap.size < wr.heap.size ∧ Hid (Col f E seen lo) ∧ Hid (∀ y ∈ lo, y.t.In w ∧ y.t.On S ∧ y.t.erase.formed = true ∧ 0 ≤ y.v ∧ y.v ≤ 1099511627776))
  case atStart => exact ⟨#[], [], rfl, heap_alloc_new w _, World.ownsRow_nil _ _ _ 5, (by go_grown), (by simp), Col.start, fun y hy => nomatch hy⟩
  case round =>
    obtain ⟨seen, lo, rfl, hr, hrow, gr, hsz, hcol, hlo⟩ := hrel
    have hbr : wr.heap[b]? = some (.map E c) := (gr.block b hbl).trans Hb.out
    have Hrow := Lib.hid hrow
    clear hrow
    rcases run_next_at (P := Try.prog) wr 0 w.heap.size b c c seen E c hr hbr Hold.out (Nat.le_refl _) with ⟨h0, hnext⟩ | ⟨e, he, w1, hw1, hnext⟩
    · have Hall := Lib.hid (all_seen E seen h0)
      go_upto_region 7 with fail
      have Hlen := Lib.hid (Col.len hcol.out Hr4.out)
      go_wp2_with (first
        | (go_at_call 96; refine (sortBds_calls (w.heap.size + 1) _ lo wr Hrow.out Hlen.out hsz).mono ?_; rintro e w1 ⟨rfl, lo', hp, hs, hb1, hbw⟩; have Hend := Lib.hid (binds_ret hcol.out Hall.out Hin.out Hr4.out hlo.out hp hs hb1 (Below.trans gr (Below.mono hbw (Nat.le_succ _)))); clear hp hs hb1 hbw)
        | fail)
      try go_ret
      rw [← HQ.out]
      exact Hend.out
    · obtain ⟨hem, hes⟩ := mem_left he
      have hlt := left_shrinks E seen e he
      obtain ⟨hkp, hr2⟩ := kp_step (o' := .mapIter (some b) c (seen.push e.born) c) hr hw1
      generalize setBlock w1 w.heap.size (.mapIter (some b) c (seen.push e.born) c) = w2 at hnext hkp hr2
      have g2 : Gr w w2 := Kp.gr_at gr hkp (Nat.le_refl _)
      have hbr2 : w2.heap[b]? = some (.map E c) := (g2.block b hbl).trans Hb.out
      have hentry := run_entry_at (P := Try.prog) w2 w.heap.size b c seen E c e hr2 hbr2 hem Hbn.out
      have hsz2 : w.heap.size < w2.heap.size := Nat.lt_of_lt_of_le hsz hkp.size
      have Hrow2 := Lib.hid (BuiltBds.kp Hrow.out hkp (fun x hx h => by omega))
      obtain ⟨n, tm, hkey, hval, hfn, htin, hform, hton, hn0, hn1⟩ := Hent.out e hem
      have Htv := Lib.hid (show tm.val = .agg #[.int .i64 tm.k, .int .i64 tm.n, .string tm.s, .slice tm.p tm.l.length tm.c] from rfl)
      rw [hkey, hval, Htv.out] at hnext hentry
      simp only [kI64] at hnext hentry
      have Hem := Lib.hid hem
      have Hes := Lib.hid hes
      have Hkey := Lib.hid hkey
      have Hfn := Lib.hid hfn
      clear hem hes hkey hfn hval he hw1 hkp hr hbr
      go_upto_region 5 with fail
      have hB := BlkT.new w2 27 #[.int .i64 tm.k, .int .i64 tm.n, .string tm.s, .slice tm.p tm.l.length tm.c]
      have gB : Gr w2 (w2.alloc (.cells #[.int .i64 tm.k, .int .i64 tm.n, .string tm.s, .slice tm.p tm.l.length tm.c] 27)) := by go_grown
      generalize w2.alloc (.cells #[.int .i64 tm.k, .int .i64 tm.n, .string tm.s, .slice tm.p tm.l.length tm.c] 27) = wB at *
      have hrB : wB.heap[w.heap.size]? = some (.mapIter (some b) c (seen.push e.born) c) := (gB.block _ hsz2).trans hr2
      have grB : Gr w wB := g2.trans gB
      have hszB : w.heap.size < wB.heap.size := Nat.lt_of_lt_of_le hsz2 gB.size
      generalize w2.heap.size = H at *
      have HB := Lib.hid hB
      have HrB := Lib.hid hrB
      have HrowB := Lib.hid (Hrow2.out.gr gB)
      have Hvar := Lib.hid (var_iff hform n)
      clear hB hrB hr2 gB g2 hbr2 hentry hnext
      have t0 := HB.out.cell 0 (v := .int .i64 tm.k) rfl
      have t1 := HB.out.cell 1 (v := .int .i64 tm.n) rfl
      by_cases hv : tm.k = 1 ∧ tm.n = n
      · have Hcol := Lib.hid (Col.skip hcol.out Hbn.out Hem.out Hkey.out (by rw [Hfn.out, Hvar.out.2 hv]))
        obtain ⟨hv1, hv2⟩ := hv
        have hk1 : (tm.k != 1) = false := by simp [hv1]
        have hk2 : (tm.n != n) = false := by simp [hv2]
        clear hv1 hv2
        go_wp2_with fail
        go_roundg ((leftOf E (seen.push e.born)).size)
        case measure => exact hlt
        case rel => exact ⟨_, lo, rfl, HrB.out, HrowB.out, grB, hszB, Hcol.out, hlo.out⟩
      · have Hcol := Lib.hid (Col.snoc hcol.out Hbn.out Hkn.out Hem.out Hes.out Hkey.out Hfn.out (fun h => hv (Hvar.out.1 h)))
        have Hlen := Lib.hid (Col.len Hcol.out Hr4.out)
        have t2 := HB.out.cell 2 (v := .string tm.s) rfl
        have t3 := HB.out.cell 3 (v := .slice tm.p tm.l.length tm.c) rfl
        have Hlo := Lib.hid (show ∀ y ∈ lo ++ [Bd.mk n tm], y.t.In w ∧ y.t.On S ∧ y.t.erase.formed = true ∧ 0 ≤ y.v ∧ y.v ≤ 1099511627776 from fun y hy => by
          rcases List.mem_append.1 hy with hy | hy
          · exact hlo.out y hy
          · rw [List.mem_singleton] at hy
            subst hy
            exact ⟨htin, hton, hform, hn0, hn1⟩)
        have Hlen2 : (lo.length + 1) * 64 ≤ 140737488351232 := by
          have := Hlen.out
          rw [List.length_append, List.length_singleton] at this
          omega
        have Hgo := Lib.hid (show ∀ w4 v', BuiltBds w4 (w.heap.size + 1) v' (lo ++ [⟨n, tm⟩]) → Below (w.heap.size + 1) wB w4 → ∃ (seen' : Array Nat) (lo' : List Bd), (leftOf E (seen.push e.born)).size = (leftOf E seen').size ∧ w4.heap[w.heap.size]? = some (.mapIter (some b) c seen' c) ∧ BuiltBds w4 (w.heap.size + 1) v' lo' ∧ Gr w w4 ∧ w.heap.size < w4.heap.size ∧ Hid (Col f E seen' lo') ∧ Hid (∀ y ∈ lo', y.t.In w ∧ y.t.On S ∧ y.t.erase.formed = true ∧ 0 ≤ y.v ∧ y.v ≤ 1099511627776) from fun w4 v' h1 h2 =>
          ⟨_, _, rfl, (h2.block _ (Nat.lt_succ_self _)).trans HrB.out, h1, Below.trans grB (Below.mono h2 (Nat.le_succ _)), Nat.lt_of_lt_of_le hszB h2.size, Hcol, Hlo⟩)
        have Hor : Hid (tm.k ≠ 1 ∨ tm.n ≠ n) := by
          show _ ∨ _
          by_cases h1 : tm.k = 1
          · exact .inr fun h2 => hv ⟨h1, h2⟩
          · exact .inl h1
        clear hv
        rcases Hor.out with h1 | h1
        · have hk1 : (tm.k != 1) = true := by simp [h1]
          clear h1
          go_wp2_with (first
            | (refine wpList_append_bd rfl _ _ rfl rfl (w.heap.size + 1) _ lo ⟨n, tm⟩ wB.heap.size 1 (by rfl) (by rfl) (HrowB.out.gr (by go_grown)) (by simp; omega) Hlen2 (BlkT.new wB _ _) ?_
               intro v' w4 h2 h3 h4)
            | fail)
          go_roundg ((leftOf E (seen.push e.born)).size)
          case measure => exact hlt
          case rel => exact Hgo.out w4 v' h2 (Below.trans (Below.mono (show Gr wB _ by go_grown) hszB) (grownBy_below h3 (by simp; omega) fun b hb => HrowB.out.ge hb))
        · cases hk1 : (tm.k != 1) with
          | true =>
            clear h1
            go_wp2_with (first
              | (refine wpList_append_bd rfl _ _ rfl rfl (w.heap.size + 1) _ lo ⟨n, tm⟩ wB.heap.size 1 (by rfl) (by rfl) (HrowB.out.gr (by go_grown)) (by simp; omega) Hlen2 (BlkT.new wB _ _) ?_
                 intro v' w4 h2 h3 h4)
              | fail)
            go_roundg ((leftOf E (seen.push e.born)).size)
            case measure => exact hlt
            case rel => exact Hgo.out w4 v' h2 (Below.trans (Below.mono (show Gr wB _ by go_grown) hszB) (grownBy_below h3 (by simp; omega) fun b hb => HrowB.out.ge hb))
          | false =>
            have hk2 : (tm.n != n) = true := by simp [h1]
            clear h1
            go_wp2_with (first
              | (refine wpList_append_bd rfl _ _ rfl rfl (w.heap.size + 1) _ lo ⟨n, tm⟩ wB.heap.size 1 (by rfl) (by rfl) (HrowB.out.gr (by go_grown)) (by simp; omega) Hlen2 (BlkT.new wB _ _) ?_
                 intro v' w4 h2 h3 h4)
              | fail)
            go_roundg ((leftOf E (seen.push e.born)).size)
            case measure => exact hlt
            case rel => exact Hgo.out w4 v' h2 (Below.trans (Below.mono (show Gr wB _ by go_grown) hszB) (grownBy_below h3 (by simp; omega) fun b hb => HrowB.out.ge hb))
end Go.Proofs.Ytmecghjnghhhkaa

namespace Go.Proofs.Ytmecghjnghhhkaa
open Go.RowKit Go.Maps Go.Lib

theorem TMap.made (S : Nat → Prop) (w : World) : TMap S (w.alloc (.map #[] 0)) w.heap.size (fun _ => none) :=
  ⟨⟨fun _ => none, ⟨#[], 0, heap_alloc_new _ _, (fun _ he => nomatch he), List.nodup_nil, fun _ _ => ⟨fun h => (nomatch h), fun ⟨_, he, _⟩ => nomatch he⟩⟩, fun _ => rfl⟩, Stm.made kI64 w, fun _ h => absurd rfl h⟩

theorem TMap.store {S : Nat → Prop} {w : World} {b : Nat} {f : Int → Option T} (h : TMap S w b f) (hb : ∀ x, S x → x ≠ b) {n : Int} (hn : 0 ≤ n ∧ n ≤ 1099511627776) {tm : Tm} (hin : tm.In w) (hf : tm.erase.formed = true) (hon : tm.On S) :
    ∃ w', (Instr.mapUpdate 115 (.map (some b)) (.int .i64 n) tm.val).run Try.prog w = .ok () w' ∧ TMap S w' b (fun x => if x = n then some tm.erase else f x) ∧ w.grownBy w' (some b) := by
  obtain ⟨⟨g, h1, h2⟩, h3, h4⟩ := h
  obtain ⟨w', hr, hg, hgb, hs⟩ := h1.updateS h3 (int_keyed Try.underlying2) Try.underlying115 (x := n) (keyOf_int_mk Try.underlying2 (wf_64 (by constructor <;> omega))) (fun y hy => kI64_inj hy) tm.val (g := fun x => if x = n then some tm.val else g x) (if_pos rfl) (fun y hy => if_neg hy)
  have hk : Kp (· = b) w w' := Kp.of_grownBy hgb rfl
  refine ⟨w', hr, ⟨⟨_, hg, fun x => ?_⟩, hs, fun x hx => ?_⟩, hgb⟩
  · by_cases hx : x = n
    · simp only [if_pos hx]
      exact ⟨tm, rfl, in_after' hin hon fun y hy hl _ => World.cell?_of_block (hk.block y hl (hb y hy)), rfl, hf, hon⟩
    · simp only [if_neg hx]
      have := h2 x
      cases hfx : f x with
      | none => rw [hfx] at this; exact this
      | some t =>
        rw [hfx] at this
        obtain ⟨u, i1, i2, i3, i4, i5⟩ := this
        exact ⟨u, i1, in_after' i2 i5 fun y hy hl _ => World.cell?_of_block (hk.block y hl (hb y hy)), i3, i4, i5⟩
  · by_cases hxn : x = n
    · subst hxn; exact hn
    · exact h4 x (by simpa [hxn] using hx)
end Go.Proofs.Ytmecghjnghhhkaa

namespace Go.Proofs.Ytmecghjnghhhkaa
open Go.RowKit Go.Maps Go.Lib

/-- Binds laid into a map, one after another. -/
def putAll (g : Bd → T) (l : List Bd) (f : Int → Option T) : Int → Option T := l.foldl (fun f y => fun x => if x = y.v then some (g y) else f x) f
/-- P4: the map of a composition. -/
def compM (s u : List Bd) : Int → Option T := putAll (fun y => T.map (lookupT u) y.t.erase) s (putAll (fun y => y.t.erase) u (fun _ => none))
def compErr (s u : List Bd) : Int := if bindsErr s = 2 ∨ bindsErr u = 2 then 2 else if bindsErr s ≠ 0 ∨ bindsErr u ≠ 0 then 1 else 0

theorem putAll_snoc (g : Bd → T) (l : List Bd) (f : Int → Option T) (k : Nat) (hk : k < l.length) : putAll g (l.take (k + 1)) f = fun x => if x = l[k].v then some (g l[k]) else putAll g (l.take k) f x := by
  rw [List.take_succ_eq_append_getElem hk, putAll, List.foldl_append]
  rfl
theorem lookup_formed {l : List Bd} (hf : (l.all fun y => y.t.erase.formed) = true) : ∀ n, 0 ≤ n → n ≤ 1099511627776 → (lookupT l n).formed = true := by
  induction l with
  | nil => intro n h1 h2; simp [lookupT, varT, T.formed, h1, h2]
  | cons x xs ih =>
    intro n h1 h2
    rw [List.all_cons, Bool.and_eq_true] at hf
    rw [lookupT]
    by_cases h : x.v = n
    · rw [if_pos h]; exact hf.1
    · rw [if_neg h]; exact ih hf.2 n h1 h2
theorem bindsErr_zero {l : List Bd} (h : bindsErr l = 0) : (l.all fun y => y.t.erase.formed) = true ∧ ascB (-1) l = true := by
  rw [bindsErr] at h
  by_cases h1 : (l.all fun y => y.t.erase.formed) = true
  · rw [if_pos h1] at h
    by_cases h2 : ascB (-1) l = true
    · exact ⟨h1, h2⟩
    · rw [if_neg h2] at h; cases h
  · rw [if_neg h1] at h; cases h
theorem formed_at {l : List Bd} (hf : (l.all fun y => y.t.erase.formed) = true) (k : Nat) (hk : k < l.length) : l[k].t.erase.formed = true := List.all_eq_true.1 hf _ (List.getElem_mem hk)
theorem asc_at {l : List Bd} (h : ascB (-1) l = true) (k : Nat) (hk : k < l.length) : 0 ≤ l[k].v ∧ l[k].v ≤ 1099511627776 := by
  have := (asc_spec l (-1) h).1 k hk
  omega

/-- Compose: an errno with nothing, or the binds of the map. -/
def RetComp (s u : List Bd) (w : World) (e : Ending) (w' : World) : Prop :=
  ∃ p c l, e = .returned (.tuple #[.slice p l.length c, .int .i64 (compErr s u)]) ∧ (Bds.mk p c l).In w' ∧ Gr w w' ∧ (compErr s u ≠ 0 → l = []) ∧ (compErr s u = 0 → IsBinds (compM s u) l)
theorem comp_err {s u : List Bd} {w w' : World} {e : Int} (he : compErr s u = e) (h0 : e ≠ 0) (hg : Gr w w') : RetComp s u w (.returned (.tuple #[.slice none 0 0, .int .i64 e])) w' :=
  ⟨none, 0, [], by rw [he]; rfl, ⟨Nat.le_refl _, ⟨by simp, by simp⟩, .inl rfl, fun y hy => nomatch hy⟩, hg, fun _ => rfl, fun h => absurd (he.symm.trans h) h0⟩
theorem bindsErr_cases3 (l : List Bd) : bindsErr l = 0 ∨ bindsErr l = 1 ∨ bindsErr l = 2 := by
  rw [bindsErr]; repeat' split
  all_goals simp
end Go.Proofs.Ytmecghjnghhhkaa

namespace Go.Proofs.Ytmecghjnghhhkaa
open Go.RowKit Go.Maps Go.Lib

/-- A bind put behind those of smaller variables. -/
def placeL : List Bd → Bd → List Bd
  | [], x => [x]
  | y :: ys, x => if y.v < x.v then y :: placeL ys x else x :: y :: ys
theorem placeL_at (x : Bd) : ∀ (l : List Bd) (k : Nat), k ≤ l.length → (∀ (j : Nat) (h : j < l.length), j < k → l[j].v < x.v) → (∀ (h : k < l.length), ¬ l[k].v < x.v) → placeL l x = l.take k ++ x :: l.drop k
  | [], 0, _, _, _ => rfl
  | y :: ys, 0, _, _, h => by
    have h0 : ¬ y.v < x.v := h (by simp)
    rw [placeL, if_neg h0]; rfl
  | y :: ys, k + 1, hk, h1, h2 => by
    have h0 : y.v < x.v := h1 0 (by simp) (by omega)
    rw [placeL, if_pos h0, placeL_at x ys k (by simpa using hk) (fun j hj hjk => h1 (j + 1) (by simpa using hj) (by omega)) (fun hk' => h2 (by simpa using hk'))]
    rfl
theorem placeL_mem (x : Bd) : ∀ (l : List Bd) (y : Bd), y ∈ placeL l x ↔ y = x ∨ y ∈ l
  | [], y => by simp [placeL]
  | z :: zs, y => by
    rw [placeL]
    split
    · rw [List.mem_cons, placeL_mem x zs y, List.mem_cons]
      constructor
      · rintro (h | h | h)
        · exact .inr (.inl h)
        · exact .inl h
        · exact .inr (.inr h)
      · rintro (h | h | h)
        · exact .inr (.inl h)
        · exact .inl h
        · exact .inr (.inr h)
    · rw [List.mem_cons]
theorem placeL_length (x : Bd) : ∀ l : List Bd, (placeL l x).length = l.length + 1
  | [] => rfl
  | y :: ys => by
    rw [placeL]
    split
    · rw [List.length_cons, placeL_length x ys, List.length_cons]
    · rfl
theorem asc_place (x : Bd) (hx : x.v ≤ 1099511627776) : ∀ (l : List Bd) (last : Int), ascB last l = true → last < x.v → (∀ y ∈ l, y.v ≠ x.v) → ascB last (placeL l x) = true
  | [], last, _, h1, _ => by
    rw [placeL, ascB, ascB, decide_eq_true h1, decide_eq_true hx]; rfl
  | y :: ys, last, h, h1, h2 => by
    rw [ascB, Bool.and_eq_true, Bool.and_eq_true, decide_eq_true_eq, decide_eq_true_eq] at h
    have hne := h2 y (by simp)
    rw [placeL]
    split
    · rename_i hlt
      rw [ascB, decide_eq_true h.1, decide_eq_true h.2.1, asc_place x hx ys y.v h.2.2 hlt fun z hz => h2 z (by simp [hz])]
      rfl
    · rename_i hlt
      rw [ascB, ascB, decide_eq_true h1, decide_eq_true hx, decide_eq_true (show x.v < y.v by omega), decide_eq_true h.2.1, h.2.2]
      rfl

/-- A new variable in the map. -/
def putF (f : Int → Option T) (n : Int) (t : T) : Int → Option T := fun m => if m = n then some t else f m

theorem IsBinds.same_var {f : Int → Option T} {l : List Bd} (h : IsBinds f l) {n : Int} (hn : f n = none) : IsBinds (putF f n (varT n)) l := by
  refine ⟨h.1, fun m t => (h.2.1 m t).trans ?_, h.2.2⟩
  rw [putF]
  by_cases hm : m = n
  · subst hm
    rw [if_pos rfl, hn]
    constructor
    · rintro ⟨h1, _⟩; cases h1
    · rintro ⟨h1, h2⟩
      exact absurd (Option.some.inj h1).symm h2
  · rw [if_neg hm]
theorem IsBinds.place {f : Int → Option T} {l : List Bd} (h : IsBinds f l) {x : Bd} (hf : x.t.erase.formed = true) (hv : 0 ≤ x.v ∧ x.v ≤ 1099511627776) (hn : f x.v = none) (hne : x.t.erase ≠ varT x.v) : IsBinds (putF f x.v x.t.erase) (placeL l x) := by
  have hfree : ∀ y ∈ l, y.v ≠ x.v := fun y hy e => by
    have := ((h.2.1 y.v y.t.erase).1 ⟨y, hy, rfl, rfl⟩).1
    rw [e, hn] at this
    cases this
  refine ⟨asc_place x hv.2 l (-1) h.1 (by omega) hfree, fun m t => ?_, fun y hy => ?_⟩
  · rw [putF]
    by_cases hm : m = x.v
    · rw [if_pos hm]
      constructor
      · rintro ⟨y, hy, h1, h2⟩
        rcases (placeL_mem x l y).1 hy with rfl | hy
        · exact ⟨by rw [h2], by rw [← h2, hm]; exact hne⟩
        · exact absurd (h1.trans hm) (hfree y hy)
      · rintro ⟨h1, _⟩
        exact ⟨x, (placeL_mem x l x).2 (.inl rfl), hm.symm, Option.some.inj h1⟩
    · rw [if_neg hm, ← h.2.1 m t]
      constructor
      · rintro ⟨y, hy, h1, h2⟩
        rcases (placeL_mem x l y).1 hy with rfl | hy
        · exact absurd h1.symm hm
        · exact ⟨y, hy, h1, h2⟩
      · rintro ⟨y, hy, h1, h2⟩
        exact ⟨y, (placeL_mem x l y).2 (.inr hy), h1, h2⟩
  · rcases (placeL_mem x l y).1 hy with rfl | hy
    · exact ⟨hf, hv⟩
    · exact h.2.2 y hy
theorem IsBinds.len {f : Int → Option T} {l : List Bd} (h : IsBinds f l) : l.length ≤ 1099511627777 := by
  have hnd : (l.map Bd.v).Nodup := by
    have hs := (asc_spec l (-1) h.1).2
    rw [List.Nodup, List.pairwise_map, List.pairwise_iff_getElem]
    intro i j hi hj hij
    have := hs i j hi hj hij
    omega
  have := nodup_le 1099511627777 (l.map Bd.v) hnd fun x hx => by
    obtain ⟨y, hy, rfl⟩ := List.mem_map.1 hx
    have := (h.2.2 y hy).2
    omega
  rwa [List.length_map] at this

/-- The variables and terms, without addresses. -/
def seeBds (l : List Bd) : List (Int × T) := l.map fun y => (y.v, y.t.erase)
theorem pairs_uniq : ∀ l l' : List (Int × T), l.Pairwise (fun a b => a.1 < b.1) → l'.Pairwise (fun a b => a.1 < b.1) → (∀ a, a ∈ l ↔ a ∈ l') → l = l'
  | [], [], _, _, _ => rfl
  | [], b :: ys, _, _, h => nomatch (h b).2 (by simp)
  | a :: xs, [], _, _, h => nomatch (h a).1 (by simp)
  | a :: xs, b :: ys, h1, h2, h => by
    rw [List.pairwise_cons] at h1 h2
    have hab : a = b := by
      rcases List.mem_cons.1 ((h a).1 (by simp)) with e | h3
      · exact e
      · rcases List.mem_cons.1 ((h b).2 (by simp)) with e | h4
        · exact e.symm
        · have h5 := h2.1 a h3
          have h6 := h1.1 b h4
          omega
    subst hab
    rw [pairs_uniq xs ys h1.2 h2.2 fun c => ?_]
    constructor
    · intro hc
      rcases List.mem_cons.1 ((h c).1 (by simp [hc])) with rfl | h3
      · have := h1.1 _ hc; omega
      · exact h3
    · intro hc
      rcases List.mem_cons.1 ((h c).2 (by simp [hc])) with rfl | h3
      · have := h2.1 _ hc; omega
      · exact h3
theorem seeBds_pairwise {l : List Bd} (h : ascB (-1) l = true) : (seeBds l).Pairwise (fun a b => a.1 < b.1) := by
  have hs := (asc_spec l (-1) h).2
  rw [seeBds, List.pairwise_map, List.pairwise_iff_getElem]
  intro i j hi hj hij
  exact hs i j hi hj hij
theorem IsBinds.uniq {f : Int → Option T} {l l' : List Bd} (h : IsBinds f l) (h' : IsBinds f l') : seeBds l = seeBds l' := by
  refine pairs_uniq _ _ (seeBds_pairwise h.1) (seeBds_pairwise h'.1) fun a => ?_
  have hm : ∀ l : List Bd, a ∈ seeBds l ↔ ∃ y ∈ l, y.v = a.1 ∧ y.t.erase = a.2 := fun l => by
    rw [seeBds, List.mem_map]
    constructor
    · rintro ⟨y, hy, rfl⟩; exact ⟨y, hy, rfl, rfl⟩
    · rintro ⟨y, hy, h1, h2⟩; exact ⟨y, hy, by rw [h1, h2]⟩
  rw [hm, hm, h.2.1, h'.2.1]
theorem seeBds_at {l l' : List Bd} (h : seeBds l = seeBds l') : l.length = l'.length ∧ ∀ (k : Nat) (hk : k < l.length) (hk' : k < l'.length), l[k].v = l'[k].v ∧ l[k].t.erase = l'[k].t.erase := by
  have hl : l.length = l'.length := by
    have := congrArg List.length h
    simpa [seeBds] using this
  refine ⟨hl, fun k hk hk' => ?_⟩
  have h1 : (seeBds l)[k]? = (seeBds l')[k]? := by rw [h]
  simp only [seeBds, List.getElem?_map, List.getElem?_eq_getElem hk, List.getElem?_eq_getElem hk', Option.map_some, Option.some.injEq, Prod.mk.injEq] at h1
  exact h1

/-! ### The map of a composition, as the document builds it -/
theorem putAll_none (g : Bd → T) (n : Int) : ∀ (l : List Bd) (f : Int → Option T), (∀ y ∈ l, y.v ≠ n) → putAll g l f n = f n
  | [], _, _ => rfl
  | y :: ys, f, h => by
    have := putAll_none g n ys (fun x => if x = y.v then some (g y) else f x) fun z hz => h z (by simp [hz])
    rw [show putAll g (y :: ys) f n = putAll g ys (fun x => if x = y.v then some (g y) else f x) n from rfl, this, if_neg fun e => h y (by simp) e.symm]
theorem putAll_some (g : Bd → T) (n : Int) : ∀ (l : List Bd) (f f' : Int → Option T), (∃ y ∈ l, y.v = n) → putAll g l f n = putAll g l f' n
  | [], _, _, h => nomatch h
  | y :: ys, f, f', h => by
    show putAll g ys (fun x => if x = y.v then some (g y) else f x) n = putAll g ys (fun x => if x = y.v then some (g y) else f' x) n
    by_cases h1 : ∃ z ∈ ys, z.v = n
    · exact putAll_some g n ys _ _ h1
    · obtain ⟨z, hz, rfl⟩ := h
      rcases List.mem_cons.1 hz with rfl | hz
      · rw [putAll_none g _ ys _ fun z hz e => h1 ⟨z, hz, e⟩, putAll_none g _ ys _ fun z hz e => h1 ⟨z, hz, e⟩, if_pos rfl, if_pos rfl]
      · exact absurd ⟨z, hz, rfl⟩ h1
theorem putAll_step (g : Bd → T) (l : List Bd) (f : Int → Option T) (k : Nat) (hk : k < l.length) : putAll g (l.take (k + 1)) f = putF (putAll g (l.take k) f) l[k].v (g l[k]) := putAll_snoc g l f k hk
theorem asc_free {l : List Bd} (h : ascB (-1) l = true) (k : Nat) (hk : k < l.length) : ∀ y ∈ l.take k, y.v ≠ l[k].v := by
  intro y hy
  obtain ⟨i, hi, rfl⟩ := List.getElem_of_mem hy
  rw [List.length_take] at hi
  rw [List.getElem_take]
  have := (asc_spec l (-1) h).2 i k (by omega) hk (by omega)
  omega
/-- The map when the second list has been gone through up to k. -/
def compAt (s u : List Bd) (k : Nat) : Int → Option T := putAll (fun y => T.map (lookupT u) y.t.erase) s (putAll (fun y => y.t.erase) (u.take k) (fun _ => none))
theorem compAt_end (s u : List Bd) : compAt s u u.length = compM s u := by rw [compAt, List.take_length, compM]
theorem compAt_found {s u : List Bd} {k : Nat} (hk : k < u.length) (h : ∃ y ∈ s, y.v = u[k].v) : compAt s u (k + 1) = compAt s u k := by
  funext n
  rw [compAt, compAt]
  by_cases h1 : ∃ y ∈ s, y.v = n
  · exact putAll_some _ n s _ _ h1
  · rw [putAll_none _ n s _ fun y hy e => h1 ⟨y, hy, e⟩, putAll_none _ n s _ fun y hy e => h1 ⟨y, hy, e⟩, putAll_step _ _ _ k hk, putF, if_neg]
    rintro rfl
    exact h1 h
theorem compAt_free {s u : List Bd} {k : Nat} (hu : ascB (-1) u = true) (hk : k < u.length) (h : ¬ ∃ y ∈ s, y.v = u[k].v) : compAt s u k u[k].v = none := by
  rw [compAt, putAll_none _ _ s _ fun y hy e => h ⟨y, hy, e⟩, putAll_none _ _ _ _ (asc_free hu k hk)]
theorem compAt_new {s u : List Bd} {k : Nat} (hk : k < u.length) (h : ¬ ∃ y ∈ s, y.v = u[k].v) : compAt s u (k + 1) = putF (compAt s u k) u[k].v u[k].t.erase := by
  funext n
  rw [putF, compAt, compAt]
  by_cases h1 : ∃ y ∈ s, y.v = n
  · rw [if_neg (by rintro rfl; exact h h1)]
    exact putAll_some _ n s _ _ h1
  · rw [putAll_none _ n s _ fun y hy e => h1 ⟨y, hy, e⟩, putAll_none _ n s _ fun y hy e => h1 ⟨y, hy, e⟩, putAll_step _ _ _ k hk, putF]
/-- Is the variable among those of the binds? -/
def hasV (l : List Bd) (n : Int) : Bool := l.any fun y => decide (y.v = n)
theorem hasV_iff (l : List Bd) (n : Int) : hasV l n = true ↔ ∃ y ∈ l, y.v = n := by
  simp [hasV, List.any_eq_true]
end Go.Proofs.Ytmecghjnghhhkaa

namespace Go.Proofs.Ytmecghjnghhhkaa

/-- A store: what variables are bound to, and what each one comes to. -/
structure StoreOk (σ : Int → Option T) (ρ : Int → T) : Prop where
  canon : Canon ρ
  bound : ∀ n t, σ n = some t → t.formed = true ∧ (0 ≤ n ∧ n ≤ 1099511627776) ∧ ρ n = T.map ρ t ∧ ∀ m, t = varT m → m < n
  free : ∀ n, σ n = none → ρ n = varT n

theorem StoreOk.empty : StoreOk (fun _ => none) varT where
  canon := canon_var
  bound _ _ h := nomatch h
  free _ _ := rfl
theorem StoreOk.open_ {σ : Int → Option T} {ρ : Int → T} (h : StoreOk σ ρ) {n : Int} (hn : ρ n = varT n) : σ n = none := by
  cases hs : σ n with
  | none => rfl
  | some t =>
    obtain ⟨h1, _, h3, h4⟩ := h.bound n t hs
    obtain ⟨z, hz, hzn⟩ := T.map_is_var (h3.symm.trans hn) h1
    have := h4 z hz
    have := h.canon.low z n hzn
    omega
theorem StoreOk.free_occ {σ : Int → Option T} {ρ : Int → T} (h : StoreOk σ ρ) {t : T} {m : Int} (hm : T.occ m (T.map ρ t)) : σ m = none := h.open_ (h.canon.occ_free hm)
theorem StoreOk.bind {σ : Int → Option T} {ρ : Int → T} (h : StoreOk σ ρ) {x : Int} {t : T} (hx : σ x = none) (hr : 0 ≤ x ∧ x ≤ 1099511627776) (ht : t.formed = true) (hoc : ¬ T.occ x (T.map ρ t)) (hlow : ∀ m, t = varT m → m < x) :
    StoreOk (putF σ x t) (stepF ρ x (T.map ρ t)) where
  canon := h.canon.step (h.free x hx) hr (h.canon.map ht) (fun m hm => h.canon.occ_free hm) hoc fun m hm => by
    obtain ⟨z, hz, hzm⟩ := T.map_is_var hm ht
    have := hlow z hz
    have := h.canon.low z m hzm
    omega
  bound n u hu := by
    rw [putF] at hu
    by_cases hn : n = x
    · rw [if_pos hn] at hu
      cases hu
      subst hn
      refine ⟨ht, hr, ?_, hlow⟩
      rw [stepF_map, oneF_not (h.canon.map ht) hoc, stepF, h.free _ hx, T.map_var, oneF, if_pos rfl]
    · rw [if_neg hn] at hu
      obtain ⟨h1, h2, h3, h4⟩ := h.bound n u hu
      refine ⟨h1, h2, ?_, h4⟩
      rw [stepF_map, stepF, h3]
  free n hn := by
    rw [putF] at hn
    by_cases hnx : n = x
    · rw [if_pos hnx] at hn; cases hn
    · rw [if_neg hnx] at hn
      rw [stepF, h.free n hn, T.map_var, oneF, if_neg hnx]
theorem StoreOk.bind_through {σ : Int → Option T} {ρ : Int → T} (h : StoreOk σ ρ) {x : Int} {t : T} :
    Through (stepF ρ x (T.map ρ t)) ρ ∧ ∀ θ, Through θ ρ → T.map θ t = θ x → Through θ (stepF ρ x (T.map ρ t)) :=
  ⟨Through.back h.canon, fun θ ht he => ht.step (by rw [ht.map, he])⟩
theorem StoreOk.bind_same {σ : Int → Option T} {ρ : Int → T} (h : StoreOk σ ρ) {x : Int} {t : T} (hx : σ x = none) (ht : t.formed = true) (hoc : ¬ T.occ x (T.map ρ t)) :
    T.map (stepF ρ x (T.map ρ t)) (varT x) = T.map (stepF ρ x (T.map ρ t)) t := by
  rw [stepF_map _ _ _ t, oneF_not (h.canon.map ht) hoc, T.map_var, stepF, h.free _ hx, T.map_var, oneF, if_pos rfl]

/-- Where a walk ends. -/
structure WalkTo (σ : Int → Option T) (ρ : Int → T) (t u : T) : Prop where
  form : u.formed = true
  same : T.map ρ u = T.map ρ t
  stop : u.k = 1 → σ u.n = none
theorem WalkTo.var {σ : Int → Option T} {ρ : Int → T} {t u : T} (hs : StoreOk σ ρ) (h : WalkTo σ ρ t u) (hk : u.k = 1) : u = varT u.n ∧ T.map ρ t = varT u.n := by
  have h1 := var_of_k h.form hk
  refine ⟨h1, ?_⟩
  rw [← h.same]
  conv => lhs; rw [h1]
  rw [T.map_var, hs.free _ (h.stop hk)]

/-! ### Lists of binds of a solved form -/
theorem lookup_none : ∀ {l : List Bd} {n : Int}, (∀ y ∈ l, y.v ≠ n) → lookupT l n = varT n
  | [], _, _ => by rw [lookupT]
  | x :: xs, n, h => by
    rw [lookupT, if_neg (h x (by simp)), lookup_none fun y hy => h y (by simp [hy])]
theorem lookup_mem : ∀ {l : List Bd} {y : Bd}, l.Pairwise (fun a b => a.v < b.v) → y ∈ l → lookupT l y.v = y.t.erase
  | x :: xs, y, hp, hy => by
    rw [List.pairwise_cons] at hp
    rw [lookupT]
    rcases List.mem_cons.1 hy with rfl | hy
    · rw [if_pos rfl]
    · have := hp.1 y hy
      rw [if_neg (by omega), lookup_mem hp.2 hy]
theorem asc_pairwise {l : List Bd} (h : ascB (-1) l = true) : l.Pairwise (fun a b => a.v < b.v) := by
  have hs := (asc_spec l (-1) h).2
  rw [List.pairwise_iff_getElem]
  intro i j hi hj hij
  exact hs i j hi hj hij
/-- The list of a solved form. -/
def ListOf (ρ : Int → T) (l : List Bd) : Prop := IsBinds (fun n => some (ρ n)) l
theorem IsBinds.lookup {f : Int → Option T} {l : List Bd} (h : IsBinds f l) (n : Int) : lookupT l n = (f n).getD (varT n) := by
  by_cases hn : ∃ y ∈ l, y.v = n
  · obtain ⟨y, hy, rfl⟩ := hn
    rw [lookup_mem (asc_pairwise h.1) hy, ((h.2.1 y.v y.t.erase).1 ⟨y, hy, rfl, rfl⟩).1]
    rfl
  · rw [lookup_none fun y hy e => hn ⟨y, hy, e⟩]
    cases hf : f n with
    | none => rfl
    | some t =>
      by_cases ht : t = varT n
      · rw [ht]; rfl
      · obtain ⟨y, hy, h1, _⟩ := (h.2.1 n t).2 ⟨hf, ht⟩
        exact absurd ⟨y, hy, h1⟩ hn
theorem IsBinds.total {f : Int → Option T} {l : List Bd} (h : IsBinds f l) : ListOf (fun n => (f n).getD (varT n)) l := by
  refine ⟨h.1, fun n t => (h.2.1 n t).trans ?_, h.2.2⟩
  show _ ↔ (some ((f n).getD (varT n)) = some t ∧ _)
  constructor
  · rintro ⟨h1, h2⟩
    exact ⟨by rw [h1]; rfl, h2⟩
  · rintro ⟨h1, h2⟩
    cases hf : f n with
    | none => rw [hf] at h1; exact absurd (Option.some.inj h1).symm h2
    | some u => rw [hf] at h1; exact ⟨h1, h2⟩
theorem ListOf.lookup {ρ : Int → T} {l : List Bd} (h : ListOf ρ l) : lookupT l = ρ := funext fun n => IsBinds.lookup h n
theorem ListOf.empty : ListOf varT [] :=
  ⟨rfl, fun _ _ => ⟨(fun ⟨_, hy, _⟩ => nomatch hy), fun ⟨h1, h2⟩ => absurd (Option.some.inj h1).symm h2⟩, (fun _ hy => nomatch hy)⟩
theorem putAll_get (g : Bd → T) (l : List Bd) (f : Int → Option T) (hp : l.Pairwise (fun a b => a.v < b.v)) {y : Bd} (hy : y ∈ l) : putAll g l f y.v = some (g y) := by
  induction l generalizing f with
  | nil => exact nomatch hy
  | cons x xs ih =>
    rw [List.pairwise_cons] at hp
    show putAll g xs (fun n => if n = x.v then some (g x) else f n) y.v = _
    rcases List.mem_cons.1 hy with rfl | hy
    · rw [putAll_none _ _ _ _ fun z hz => by have := hp.1 z hz; omega, if_pos rfl]
    · exact ih _ hp.2 hy
theorem compM_get {s u : List Bd} (hs : ascB (-1) s = true) (hu : ascB (-1) u = true) (n : Int) : (compM s u n).getD (varT n) = T.map (lookupT u) (lookupT s n) := by
  rw [compM]
  by_cases h1 : ∃ y ∈ s, y.v = n
  · obtain ⟨y, hy, rfl⟩ := h1
    rw [putAll_get _ _ _ (asc_pairwise hs) hy, lookup_mem (asc_pairwise hs) hy]
    rfl
  · rw [putAll_none _ _ _ _ fun y hy e => h1 ⟨y, hy, e⟩, lookup_none fun y hy e => h1 ⟨y, hy, e⟩, T.map_var]
    by_cases h2 : ∃ y ∈ u, y.v = n
    · obtain ⟨y, hy, rfl⟩ := h2
      rw [putAll_get _ _ _ (asc_pairwise hu) hy, lookup_mem (asc_pairwise hu) hy]
      rfl
    · rw [putAll_none _ _ _ _ fun y hy e => h2 ⟨y, hy, e⟩, lookup_none fun y hy e => h2 ⟨y, hy, e⟩]
      rfl
theorem ListOf.comp {ρ : Int → T} {s u l : List Bd} (hs : ListOf ρ s) (hu : ascB (-1) u = true) (h : IsBinds (compM s u) l) : ListOf (fun n => T.map (lookupT u) (ρ n)) l := by
  have h1 := h.total
  have h2 : (fun n => (compM s u n).getD (varT n)) = fun n => T.map (lookupT u) (ρ n) := funext fun n => by
    rw [compM_get hs.1 hu, hs.lookup]
  rw [h2] at h1
  exact h1
theorem lookup_one (x : Bd) : lookupT [x] = oneF x.v x.t.erase := funext fun n => by
  rw [lookupT, lookupT, oneF]
  by_cases h : x.v = n
  · rw [if_pos h, if_pos h.symm]
  · rw [if_neg h, if_neg fun e => h e.symm]
theorem ListOf.step {ρ : Int → T} {s l : List Bd} {x : Bd} (hs : ListOf ρ s) (hx : 0 ≤ x.v ∧ x.v ≤ 1099511627776) (h : IsBinds (compM s [x]) l) : ListOf (stepF ρ x.v x.t.erase) l := by
  have h1 := hs.comp (u := [x]) (by rw [ascB, ascB, decide_eq_true (show -1 < x.v by omega), decide_eq_true hx.2]; rfl) h
  rw [lookup_one] at h1
  exact h1
theorem ListOf.uniq {ρ : Int → T} {l l' : List Bd} (h : ListOf ρ l) (h' : ListOf ρ l') : seeBds l = seeBds l' := IsBinds.uniq h h'
theorem ListOf.mem {ρ : Int → T} {l : List Bd} (h : ListOf ρ l) {y : Bd} (hy : y ∈ l) : ρ y.v = y.t.erase ∧ y.t.erase ≠ varT y.v := by
  have := (h.2.1 y.v y.t.erase).1 ⟨y, hy, rfl, rfl⟩
  exact ⟨Option.some.inj this.1, this.2⟩

/-! ### All pairs -/
/-- What is known of a store that holds these pairs. -/
def Holds (E : List (T × T)) (ρ : Int → T) : Prop := Unif ρ E ∧ ∀ θ, Unif θ E → Through θ ρ
theorem holds_nil : Holds [] varT := ⟨(fun _ hp => nomatch hp), fun θ _ => through_var θ⟩
theorem Holds.snoc {E : List (T × T)} {ρ ρ' : Int → T} (h : Holds E ρ) {a b : T} (h1 : Through ρ' ρ) (h2 : T.map ρ' a = T.map ρ' b) (h3 : ∀ θ, Through θ ρ → T.map θ a = T.map θ b → Through θ ρ') : Holds (E ++ [(a, b)]) ρ' := by
  refine ⟨fun p hp => ?_, fun θ hθ => ?_⟩
  · rcases List.mem_append.1 hp with hp | hp
    · rw [← h1.map p.1, h.1 p hp, h1.map]
    · rw [List.mem_singleton] at hp
      subst hp
      exact h2
  · exact h3 θ (h.2 θ fun p hp => hθ p (List.mem_append.2 (.inl hp))) (hθ (a, b) (List.mem_append.2 (.inr (by simp))))
theorem Holds.rob {E : List (T × T)} {ρ r : Int → T} (hE : FormedP E) (hc : Canon ρ) (h : Holds E ρ) (hr : Rob varT E (.done r)) : r = ρ := by
  obtain ⟨h1, _⟩ := hr.sound canon_var hE
  obtain ⟨g1, _, g3, g4⟩ := h1 r rfl
  exact g1.uniq hc (g4 ρ (through_var ρ) h.1) (h.2 r g3)
theorem Rob.holds {E : List (T × T)} {r : Int → T} (hE : FormedP E) (hr : Rob varT E (.done r)) : Canon r ∧ Holds E r := by
  obtain ⟨h1, _⟩ := hr.sound canon_var hE
  obtain ⟨g1, _, g3, g4⟩ := h1 r rfl
  exact ⟨g1, g3, fun θ hθ => g4 θ (through_var θ) hθ⟩
theorem Rob.none {E : List (T × T)} (hE : FormedP E) (hr : Rob varT E .clash) : ∀ θ, ¬ Unif θ E := fun θ => (hr.sound canon_var hE).2 rfl θ (through_var θ)
end Go.Proofs.Ytmecghjnghhhkaa
