/-
  (*base.Base).View in general.
  slices.Insert at []int in general.
  slices.Insert at []int in general: the row that the caller owns.
  slices.Grow and slices.Concat at lists of terms.
-/
import Derived.Test.YteonakicoomjkaaBV14
import Derived.Shelf.Spec.SlicesInsert
import Derived.Shelf.Spec.SlicesInsertGrow
import Derived.Test.YteonakicoomjkaaBV13
namespace Go.Proofs.Yteonakicoomjkaa
open Go.RowKit Go.Maps Go.Lib

set_option maxHeartbeats 8000000 in
set_option maxRecDepth 100000 in
theorem view_bad (B : Nat) (G : Tm) (w : World) (hG : G.In w) (E : Int) (hE : (G.erase.formed = false ∧ E = 2) ∨ (G.erase.formed = true ∧ G.erase.callable = false ∧ E = 7)) :
    Calls Try.prog 34 #[.pointer (some ⟨B, 0, none⟩), G.val] w fun e w' => e = .returned (.tuple #[.pointer none, .int .i64 E]) ∧ Gr w w' := by
  have hR : Hid (∀ w', Gr w w' → (fun (e : Ending) (w' : World) => e = .returned (.tuple #[.pointer none, .int .i64 E]) ∧ Gr w w') (.returned (.tuple #[.pointer none, .int .i64 E])) w') := fun w' h => ⟨rfl, h⟩
  generalize hQ : (fun (e : Ending) (w' : World) => e = .returned (.tuple #[.pointer none, .int .i64 E]) ∧ Gr w w') = Q at hR ⊢
  clear hQ
  have HG := Lib.hid hG
  clear hG
  have Hgv := Lib.hid (show G.val = .agg #[.int .i64 G.k, .int .i64 G.n, .string G.s, .slice G.p G.l.length G.c] from rfl)
  rw [Hgv.out]
  go_enter Try.func34, Try.ntmps34
  try simp only [List.append_eq, List.cons_append, List.nil_append]
  go_upto_region 1 with fail
  have hN := Blk4.new w (.int .i64 G.k) (.int .i64 G.n) (.string G.s) (.slice G.p G.l.length G.c)
  have gA : Gr w (w.alloc (.cells #[.int .i64 G.k, .int .i64 G.n, .string G.s, .slice G.p G.l.length G.c] 24)) := by go_grown
  generalize w.alloc (.cells #[.int .i64 G.k, .int .i64 G.n, .string G.s, .slice G.p G.l.length G.c] 24) = wA at *
  have HT := Lib.hid hN
  clear hN
  obtain ⟨⟨t0, t1, t2, t3⟩, _, _⟩ := HT.out.parts
  rcases hE with ⟨hf, rfl⟩ | ⟨hf, hc, rfl⟩
  · have hff : Hid (T.formedL (Tm.eraseL [G]) = false) := Lib.hid ((formedL_one G).trans hf)
    clear hf
    go_wp2_with (first
      | (go_at_call 62; refine (all_calls (one_new (t := G) (Tm.In_below gA HG.out) (Gr.rfl' _))).mono ?_; rintro e wB ⟨rfl, hb⟩; rewrite [hff.out]; have g2 : Gr wA wB := below_step hb (by go_grown); replace HT := Lib.hid (HT.out.gr g2); have gB := gA.trans g2; clear hb g2 t0 t1 t2 t3; obtain ⟨⟨t0, t1, t2, t3⟩, _, _⟩ := HT.out.parts)
      | fail)
    exact hR.out _ gB
  · have hff : Hid (T.formedL (Tm.eraseL [G]) = true) := Lib.hid ((formedL_one G).trans hf)
    have CGc := Lib.hid hc
    clear hf hc
    go_wp2_with (first
      | (go_at_call 62; refine (all_calls (one_new (t := G) (Tm.In_below gA HG.out) (Gr.rfl' _))).mono ?_; rintro e wB ⟨rfl, hb⟩; rewrite [hff.out]; have g2 : Gr wA wB := below_step hb (by go_grown); replace HT := Lib.hid (HT.out.gr g2); have gB := gA.trans g2; clear hb g2 t0 t1 t2 t3; obtain ⟨⟨t0, t1, t2, t3⟩, _, _⟩ := HT.out.parts)
      | (go_at_call 94; rewrite [← Hgv.out]; refine (callable_calls _ _).mono ?_; rw [CGc.out]; rintro e wC ⟨rfl, hb⟩; replace HT := Lib.hid (HT.out.gr hb); have gC := gB.trans hb; clear hb t0 t1 t2 t3; obtain ⟨⟨t0, t1, t2, t3⟩, _, _⟩ := HT.out.parts)
      | fail)
    exact hR.out _ gC

/-- A view is handed back: what it is. -/
def RetViewG (S : Nat → Prop) (g : T) (L : List HdT) (w : World) (e : Ending) (w' : World) : Prop := ∃ (V : Nat) (p : Option Addr) (c : Nat) (M : List Hd) (G : Tm), e = .returned (.tuple #[.pointer (some ⟨V, 0, none⟩), .int .i64 0]) ∧
  BlkT w' V 150 #[.slice p M.length c, .int .i64 G.k, .int .i64 G.n, .string G.s, .slice G.p G.l.length G.c] ∧ HSl S w' p c M ∧ M.map Hd.er = L ∧ G.In w' ∧ G.erase = g ∧ G.On (fun x => w.heap.size ≤ x ∧ x ≠ V) ∧ w.heap.size ≤ V ∧ Gr w w'

def boxG (hv : Value) (t : T) (B0 : Nat) : VP := fun v w => ∃ (V : Nat) (G : Tm), v = .pointer (some ⟨V, 0, none⟩) ∧ B0 ≤ V ∧ BlkT w V 150 #[hv, .int .i64 G.k, .int .i64 G.n, .string G.s, .slice G.p G.l.length G.c] ∧ G.In w ∧ G.erase = t ∧ G.On (fun x => B0 ≤ x ∧ x ≠ V)
theorem boxG_stable {hv : Value} {t : T} {B0 : Nat} : ∀ v w w', boxG hv t B0 v w → Gr w w' → boxG hv t B0 v w' := fun _ _ _ ⟨V, G, h1, h2, h3, h4, h5⟩ hg => ⟨V, G, h1, h2, h3.gr hg, Tm.In_below hg h4, h5⟩
def viewG (hv : Value) (t : T) (B0 : Nat) : VP := fun v w => ∃ G : Tm, v = .agg #[hv, .int .i64 G.k, .int .i64 G.n, .string G.s, .slice G.p G.l.length G.c] ∧ G.In w ∧ G.erase = t ∧ G.On (B0 ≤ ·)
theorem viewG_stable {hv : Value} {t : T} {B0 : Nat} : ∀ v w w', viewG hv t B0 v w → Gr w w' → viewG hv t B0 v w' := fun _ _ _ ⟨G, h1, h2, h3⟩ hg => ⟨G, h1, Tm.In_below hg h2, h3⟩

set_option maxHeartbeats 8000000 in
set_option maxRecDepth 100000 in
theorem view_gen (S : Nat → Prop) (B M1 : Nat) (v0 v1 v3 : Value) (f : ByteArray × Int → Option Value) (G : Tm) (p : Option Addr) (c : Nat) (L : List Hd) (w : World) (hB : BlkT w B 136 #[v0, v1, .map (some M1), v3]) (hM : GMap 138 kPred w M1 f)
    (hf : (f (G.s, (G.l.length : Int))).getD (.slice none 0 0) = .slice p L.length c) (hL : HSl S w p c L) (hG : G.In w) (fG : G.erase.formed = true) (cG : G.erase.callable = true) :
    Calls Try.prog 34 #[.pointer (some ⟨B, 0, none⟩), G.val] w (RetViewG S G.erase (L.map Hd.er) w) := by
  have hR : Hid (∀ (V : Nat) (G' : Tm) (w' : World), BlkT w' V 150 #[.slice p L.length c, .int .i64 G'.k, .int .i64 G'.n, .string G'.s, .slice G'.p G'.l.length G'.c] → HSl S w' p c L → G'.In w' → G'.erase = G.erase → G'.On (fun x => w.heap.size ≤ x ∧ x ≠ V) → w.heap.size ≤ V → Gr w w' → RetViewG S G.erase (L.map Hd.er) w (.returned (.tuple #[.pointer (some ⟨V, 0, none⟩), .int .i64 0])) w') := fun V G' w' h1 h2 h3 h4 h5 h6 h7 => ⟨V, p, c, L, G', rfl, h1, h2, rfl, h3, h4, h5, h6, h7⟩
  generalize hQ : RetViewG S G.erase (L.map Hd.er) w = Q at hR ⊢
  clear hQ
  obtain ⟨hs, hl⟩ := tm_small fG
  have Hkey := Lib.hid (keyOf_bpred (s := G.s) (n := (G.l.length : Int)) (by simp only [maxLen]; omega) (wf_64 ⟨by omega, by omega⟩))
  have hl64 : IntKind.i64.wrap (G.l.length : Int) = G.l.length := IntWalk.i64_in _ (by omega)
  have HBl := Lib.hid hB
  have HM1 := Lib.hid hM
  have HF1 := Lib.hid hf
  have HL := Lib.hid hL
  have HG := Lib.hid hG
  have FG := Lib.hid fG
  have CGc := Lib.hid cG
  have hff : Hid (T.formedL (Tm.eraseL [G]) = true) := Lib.hid ((formedL_one G).trans fG)
  clear hB hM hf hL hG fG cG
  have Hgv := Lib.hid (show G.val = .agg #[.int .i64 G.k, .int .i64 G.n, .string G.s, .slice G.p G.l.length G.c] from rfl)
  rw [Hgv.out]
  go_enter Try.func34, Try.ntmps34
  try simp only [List.append_eq, List.cons_append, List.nil_append]
  go_upto_region 1 with fail
  have hN := Blk4.new w (.int .i64 G.k) (.int .i64 G.n) (.string G.s) (.slice G.p G.l.length G.c)
  have gA : Gr w (w.alloc (.cells #[.int .i64 G.k, .int .i64 G.n, .string G.s, .slice G.p G.l.length G.c] 24)) := by go_grown
  generalize w.alloc (.cells #[.int .i64 G.k, .int .i64 G.n, .string G.s, .slice G.p G.l.length G.c] 24) = wA at *
  have HT := Lib.hid hN
  clear hN
  obtain ⟨⟨t0, t1, t2, t3⟩, _, _⟩ := HT.out.parts
  go_upto_region 3 with (first
    | (go_at_call 62; refine (all_calls (one_new (t := G) (Tm.In_below gA HG.out) (Gr.rfl' _))).mono ?_; rintro e wB ⟨rfl, hb⟩; rewrite [hff.out]; have g2 : Gr wA wB := below_step hb (by go_grown); replace HT := Lib.hid (HT.out.gr g2); have gB := gA.trans g2; clear hb g2 t0 t1 t2 t3; obtain ⟨⟨t0, t1, t2, t3⟩, _, _⟩ := HT.out.parts)
    | fail)
  go_upto_region 5 with (first
    | (go_at_call 94; rewrite [← Hgv.out]; refine (callable_calls _ _).mono ?_; rw [CGc.out]; rintro e wC ⟨rfl, hb⟩; replace HT := Lib.hid (HT.out.gr hb); have gC := gB.trans hb; clear hb t0 t1 t2 t3; obtain ⟨⟨t0, t1, t2, t3⟩, _, _⟩ := HT.out.parts)
    | fail)
  have b2 := (HBl.out.gr gC).cell 2 (v := .map (some M1)) rfl
  refine wp_region_rely [fx (.pointer (some ⟨B, 0, none⟩)), fx (.pointer (some ⟨B, 0, none⟩)), fx (.pointer (some ⟨B, 2, none⟩)), fx (.map (some M1)), fx G.val, fx (.agg #[.string G.s, .int .i64 G.l.length]), fx (.slice p L.length c), fx G.val, tmIs (wC.heap.size ≤ ·) G.erase, viewG (.slice p L.length c) G.erase wC.heap.size, boxG (.slice p L.length c) G.erase wC.heap.size, boxG (.slice p L.length c) G.erase wC.heap.size, fx (.int .i64 0)]
    (by kernel_rfl) (by kernel_rfl) (by repeat (first | exact Stable.nil | refine Stable.fix ?_ | refine Stable.cons tmIs_stable ?_ | refine Stable.cons viewG_stable ?_ | refine Stable.cons boxG_stable ?_)) ?_ ?_
  · refine ⟨?_, ?_, ?_, ?_, ?_, ?a5, ?_, ?_, ?a8, ?a9, ?a10, ?a11, ?_, trivial⟩
    all_goals
      intro a wr hg hold
      have h0 : a.tmps[0]?.getD undef = .pointer (some ⟨B, 0, none⟩) := hold 0 rfl
      have h3 : a.tmps[3]?.getD undef = .pointer (some ⟨w.heap.size, 0, none⟩) := hold 3 rfl
      clear hold
      have y2 := Gr.at hg b2
      have x0 := Gr.at hg t0
      have x1 := Gr.at hg t1
      have x2 := Gr.at hg t2
      have x3 := Gr.at hg t3
      have hlk := (GMap.run (HM1.out.gr (gC.trans hg)) bpred_keyed Try.underlying133 (zero_held wr) (x := (G.s, (G.l.length : Int))) Hkey.out).1
      rw [HF1.out] at hlk
      simp only [kPred] at hlk
      clear b2 t0 t1 t2 t3
      simp [predsImp, Region.binds, dstAt, fx]
      intros
      first
        | (rw [if_pos (by simp [*])]
           intro K hK)
        | (rename_i K hK)
      go_simp
    case a5 =>
      refine (of_calls G wr).mono ?_
      rintro e w10 ⟨rfl, hg2⟩
      exact hK _ _ rfl hg2
    case a8 =>
      refine (copy_calls (t := G) (Tm.In_below (gC.trans hg) HG.out) FG.out).mono ?_
      rintro e w10 ⟨z, i1, i2, rfl, ib, i3⟩
      exact hK _ _ ⟨z, rfl, i1, i2, i3.mono fun b hb => Nat.le_trans hg.size hb⟩ ib
    case a9 =>
      have hq : tmIs (wC.heap.size ≤ ·) G.erase (a.tmps[21]?.getD undef) wr := by assumption
      obtain ⟨z, e1, i1, j1, o1⟩ := hq
      rw [e1]
      simp only [Tm.val]
      go_simp
      exact hK _ _ ⟨z, rfl, i1, j1, o1⟩ (Gr.rfl' _)
    case a10 =>
      have hq : viewG (.slice p L.length c) G.erase wC.heap.size (a.tmps[22]?.getD undef) wr := by assumption
      obtain ⟨z, e1, i1, j1, o1⟩ := hq
      rw [e1]
      go_simp
      have hgn : Gr wr (wr.alloc (.cells #[.slice p L.length c, .int .i64 z.k, .int .i64 z.n, .string z.s, .slice z.p z.l.length z.c] 150)) := by go_grown
      exact hK _ _ ⟨_, z, rfl, hg.size, BlkT.new wr 150 #[.slice p L.length c, .int .i64 z.k, .int .i64 z.n, .string z.s, .slice z.p z.l.length z.c], Tm.In_below hgn i1, j1, (Tm.On.and o1 i1.on).mono fun b hb => ⟨hb.1, Nat.ne_of_lt hb.2⟩⟩ hgn
    case a11 =>
      have hq : boxG (.slice p L.length c) G.erase wC.heap.size (a.tmps[23]?.getD undef) wr := by assumption
      exact hK _ _ hq (Gr.rfl' _)
    all_goals exact hK _ _ rfl (Gr.rfl' _)
  · intro wd hg
    rintro _ rfl _ rfl _ rfl _ rfl _ rfl _ rfl _ rfl _ rfl v8 _ v9 _ v10 _ _ ⟨V, z, rfl, hVs, hVb, hzi, hz, hzo⟩ _ rfl
    have gD := gC.trans hg
    have hcs := gC.size
    have hfin : Hid (Q (.returned (.tuple #[.pointer (some ⟨V, 0, none⟩), .int .i64 0])) wd) := hR.out V z wd hVb (HL.out.gr gD) hzi hz (hzo.mono fun b hb => ⟨Nat.le_trans hcs hb.1, hb.2⟩) (Nat.le_trans hcs hVs) gD
    clear hg b2 t0 t1 t2 t3 hVb hzi hzo
    simp only [finAll, Act.put, List.setIfInBounds_toArray, List.set_cons_succ, List.set_cons_zero]
    go_wp2_with fail
    exact hfin.out
end Go.Proofs.Yteonakicoomjkaa

namespace Go.Proofs.Yteonakicoomjkaa
open Go.RowKit Go.Maps Go.Lib

def insRen : Go.Shelf.Ren := ⟨fun | 21 => 102 | 27 => 157 | 28 => 158 | 35 => 203 | 39 => 216 | n => n, fun | 0 => 0 | 3 => 3 | 4 => 4 | 22 => 50 | n => n, fun | n => n⟩

set_option maxRecDepth 100000 in
theorem insLays : Go.Proofs.Lays2.n21 Try.prog insRen := {
  mixed := by kernel_rfl
  f21 := Try.func102.trans (congrArg some (by kernel_rfl))
  f27 := Try.func157.trans (congrArg some (by kernel_rfl))
  f28 := Try.func158.trans (congrArg some (by kernel_rfl))
  f35 := Try.func203.trans (congrArg some (by kernel_rfl))
  f39 := Try.func216.trans (congrArg some (by kernel_rfl))
  t0 := Try.underlying0
  a0 := Try.isAgg0
  z0 := Try.sizeOf0
  v0 := Try.zeroValue0
  t3 := Try.underlying3
  a3 := Try.isAgg3
  z3 := Try.sizeOf3
  v3 := Try.zeroValue3
  t4 := Try.underlying4
  a4 := Try.isAgg4
  z4 := Try.sizeOf4
  v4 := Try.zeroValue4
  t22 := Try.underlying50
  a22 := Try.isAgg50
  z22 := Try.sizeOf50
  v22 := Try.zeroValue50
  i3 := infoInt }

end Go.Proofs.Yteonakicoomjkaa

namespace Go.Proofs.Yteonakicoomjkaa
open Go.RowKit Go.Maps Go.Lib

theorem heap_setCells {g : Nat} {e : TypeId} {fz : Nat × Nat} : ∀ (vs : List Value) (o : Nat) (w : World) (cur : Array Value), w.heap[g]? = some (.cells cur e fz) →
    ∃ cur', (w.setCells g o vs).heap[g]? = some (.cells cur' e fz) ∧ cur'.size = cur.size ∧ ∀ k, cur'[k]? = if o ≤ k ∧ k < o + vs.length ∧ k < cur.size then vs[k - o]? else cur[k]?
  | [], o, w, cur, h => ⟨cur, h, rfl, fun k => by rw [if_neg (by simp; omega)]⟩
  | v :: r, o, w, cur, h => by
    have h1 : (w.setCell ⟨g, o, none⟩ v).heap[g]? = some (.cells (cur.setIfInBounds o v) e fz) := by
      simp [World.setCell, Array.getElem?_modify, h]
    obtain ⟨cur', h2, h3, h4⟩ := heap_setCells r (o + 1) _ _ h1
    refine ⟨cur', h2, by simpa using h3, fun k => ?_⟩
    rw [h4 k, Array.getElem?_setIfInBounds, Array.size_setIfInBounds]
    by_cases hk : o = k
    · subst hk
      rw [if_neg (by omega), if_pos rfl]
      by_cases hs : o < cur.size
      · rw [if_pos hs, if_pos ⟨Nat.le_refl _, by simp, hs⟩, Nat.sub_self]; rfl
      · rw [if_neg hs, if_neg (by omega), Array.getElem?_eq_none (by omega)]
    · rw [if_neg hk]
      by_cases hc : o + 1 ≤ k ∧ k < o + 1 + r.length ∧ k < cur.size
      · rw [if_pos hc, if_pos ⟨by omega, by simp; omega, hc.2.2⟩, show k - o = (k - (o + 1)) + 1 by omega, List.getElem?_cons_succ]
      · rw [if_neg hc, if_neg (by simp; omega)]

theorem owns_of {w : World} {g cap n B : Nat} {e : TypeId} {cur : Array Value} {xs : List Value} (hB : B ≤ g) (hg : w.heap[g]? = some (.cells cur e (0, 0))) (hn : n ≤ cap) (hc : cap ≤ maxLen)
    (hs : cur.size = cap) (hl : xs.length = n) (hx : ∀ k, k < n → cur[k]? = xs[k]?) : w.ownsRow B e 1 (.slice (some ⟨g, 0, none⟩) n cap) n xs := by
  refine ⟨by omega, .inr ⟨g, cap, cur, rfl, hB, hg, hn, hc, by omega, ?_⟩⟩
  apply List.ext_getElem?
  intro k
  rw [List.getElem?_take, Nat.mul_one, Array.getElem?_toList]
  by_cases hk : k < n
  · rw [if_pos hk, hx k hk]
  · rw [if_neg hk, List.getElem?_eq_none (by omega)]

theorem ins_at (cs : List Value) (x : Value) (i : Nat) (hi : i ≤ cs.length) (k : Nat) :
    (cs.take i ++ x :: cs.drop i)[k]? = if k < i then cs[k]? else if k = i then some x else cs[k - 1]? := by
  have hl : (cs.take i).length = i := by rw [List.length_take]; omega
  by_cases hk : k < i
  · rw [if_pos hk, List.getElem?_append_left (by omega), List.getElem?_take, if_pos hk]
  · rw [if_neg hk, List.getElem?_append_right (by omega), hl]
    by_cases he : k = i
    · rw [if_pos he, he, Nat.sub_self]; rfl
    · rw [if_neg he, show k - i = (k - 1 - i) + 1 by omega, List.getElem?_cons_succ, List.getElem?_drop, show i + (k - 1 - i) = k - 1 by omega]

theorem ins_len (cs : List Value) (x : Value) (i : Nat) (hi : i ≤ cs.length) : (cs.take i ++ x :: cs.drop i).length = cs.length + 1 := by
  rw [List.length_append, List.length_cons, List.length_take, List.length_drop]; omega

theorem Kp.cells {C : Nat → Prop} {g : Nat} (hg : C g) : ∀ (vs : List Value) (o : Nat) (w : World), Kp C w (w.setCells g o vs)
  | [], _, w => Kp.refl _ w
  | _ :: r, o, _ => (Kp.set hg).trans (Kp.cells hg r (o + 1) _)

theorem zeros_size (n : Nat) : (Builtin.zeroCells (Value.int .i64 0).cells n).size = n := by
  simp [Builtin.zeroCells, Value.cells]

theorem owns_grown {w : World} {B n cap : Nat} {e : TypeId} {xs : List Value} (hB : B ≤ w.heap.size) (hl : xs.length = n) (hn : n ≤ cap) (hc : cap ≤ maxLen) :
    (w.drew.alloc (.cells (xs.toArray ++ Builtin.zeroCells (Value.int .i64 0).cells (cap - n)) e)).ownsRow B e 1 (.slice (some ⟨w.heap.size, 0, none⟩) n cap) n xs := by
  have hnew : (w.drew.alloc (.cells (xs.toArray ++ Builtin.zeroCells (Value.int .i64 0).cells (cap - n)) e)).heap[w.heap.size]? = _ := heap_alloc_new w.drew _
  refine owns_of hB hnew hn hc (by rw [Array.size_append, zeros_size, List.size_toArray]; omega) hl (fun k hk => ?_)
  rw [Array.getElem?_append_left (by rw [List.size_toArray]; omega), List.getElem?_toArray]

/-- What slices.Insert answers where the row is the caller's. -/
def Inserted (B : Nat) (v : Value) (cs : List Value) (w : World) : Ending → World → Prop := fun e w' =>
  ∃ v', e = .returned v' ∧ w'.ownsRow B 3 1 v' cs.length cs ∧ Kp (fun b => v.ownBlock = some b) w w' ∧ (v'.ownBlock = v.ownBlock ∨ v'.ownBlock = some w.heap.size)

theorem insert_gen (B : Nat) (v : Value) (L : List Int) (i vb : Nat) (x : Int) (w : World) (hown : w.ownsRow B 3 1 v L.length (L.map (.int .i64))) (hi : i ≤ L.length) (hB : B ≤ w.heap.size)
    (hvb : w.heap[vb]? = some (.cells #[.int .i64 x] 3 (0, 0))) (hne : v.ownBlock ≠ some vb) (hbig : (L.length + 1) * 8 ≤ 140737488355328) :
    Calls Try.prog 102 #[v, .int .i64 i, .slice (some ⟨vb, 0, none⟩) 1 1] w
      (Inserted B v ((L.take i ++ x :: L.drop i).map (.int .i64)) w) := by
  have hmap : (L.take i ++ x :: L.drop i).map (Value.int .i64) = (L.map (.int .i64)).take i ++ (.int .i64 x) :: (L.map (.int .i64)).drop i := by simp
  rw [hmap]
  have h1c : ∀ u ∈ L.map (Value.int .i64), u.oneCell' = true := by
    intro u hu
    obtain ⟨y, _, rfl⟩ := List.mem_map.1 hu
    rfl
  have hll : (L.map (Value.int .i64)).length = L.length := List.length_map ..
  generalize L.map (Value.int .i64) = cs at *
  rw [← hll] at hown hi hbig
  clear hmap hll
  have h1v : ∀ u ∈ [Value.int .i64 x], u.oneCell' = true := by
    intro u hu
    obtain rfl := List.mem_singleton.1 hu
    rfl
  have hvs : ∀ j u, [Value.int .i64 x][j]? = some u → w.cell? ⟨vb, 0 + j, none⟩ = some u := by
    intro j u hu
    match j, hu with
    | 0, hu => cases hu; simp [World.cell?, hvb]
    | j + 1, hu => simp at hu
  have hil := ins_len cs (.int .i64 x) i hi
  have hia := ins_at cs (.int .i64 x) i hi
  generalize hxs : cs.take i ++ (Value.int .i64 x) :: cs.drop i = xs at *
  rcases hown.2 with ⟨rfl, h0⟩ | ⟨g, cap, cur, rfl, hbg, hg, hnc, hcm, hsz, htk⟩
  · -- nothing is there yet
    obtain rfl : cs = [] := List.length_eq_zero_iff.1 h0
    obtain rfl : i = 0 := by simpa using hi
    refine (Any2.slices_Insert_int_end_grow insLays none 0 0 vb 0 1 1 [] [.int .i64 x] w (by decide) (Nat.le_refl _) (by decide) (by decide) rfl rfl (fun _ => rfl) (fun a ha => by cases ha) hvs h1v).mono ?_
    rintro e w' ⟨rfl, rfl⟩
    have hge := grownCap_ge w (0 + 1) 0 3
    have hle := grownCap_le_maxLen w (0 + 1) 0 3 (by decide)
    have hrow := owns_grown (w := w) (B := B) (e := 3) (xs := xs) (n := 0 + 1) hB hil hge hle
    rw [← hxs] at hrow ⊢
    exact ⟨_, rfl, hrow, Kp.of_gr ((Below.refl _ w).drew.alloc (Nat.le_refl _) _), .inr rfl⟩
  · have hcell : ∀ j u, cs[j]? = some u → w.cell? ⟨g, 0 + j, none⟩ = some u := by
      intro j u hu
      have hj := (List.getElem?_eq_some_iff.1 hu).1
      simp only [World.cell?, hg]
      rw [← htk, List.getElem?_take, if_pos (by omega), Array.getElem?_toList] at hu
      simpa using hu
    have hcur : ∀ k, k < cs.length → cur[k]? = cs[k]? := by
      intro k hk
      rw [← htk, List.getElem?_take, if_pos (by omega), Array.getElem?_toList]
    have hthere : ∀ j, j < cap → (w.cell? ⟨g, j, none⟩).isSome = true := by
      intro j hj
      simp [World.cell?, hg, Array.getElem?_eq_getElem (show j < cur.size by omega)]
    have hfz : ∀ j, w.frozen? ⟨g, j, none⟩ = false := by
      intro j
      simp [World.frozen?, hg]
    have hgv : vb ≠ g := fun h => hne (by rw [h]; rfl)
    have hc63 : cap ≤ 9223372036854775807 := hcm
    by_cases hroom : cs.length + 1 ≤ cap
    · by_cases hlt : i < cs.length
      · refine (Any2.slices_Insert_int_shift insLays g 0 cs.length cap i vb 0 1 1 cs [.int .i64 x] w hlt (by decide) hroom hc63 hgv rfl rfl hcell (fun j hj => by rw [Nat.zero_add]; exact hthere j (by omega)) (fun j _ => hfz _) hvs h1c h1v
          3 3 1 cur.size (by simp [World.shape?, hvb]) (by simp [World.shape?, hg]) (by omega) (by simp [World.frozen?, hvb]) (by simp [World.frozen?, hvb])).mono ?_
        rintro e w' ⟨rfl, rfl⟩
        obtain ⟨cur1, h1, h2, h3⟩ := heap_setCells (g := g) (e := 3) (fz := (0, 0)) (cs.drop i) (0 + (i + 1)) w.drew cur hg
        obtain ⟨cur2, k1, k2, k3⟩ := heap_setCells (g := g) (e := 3) (fz := (0, 0)) [.int .i64 x] (0 + i) _ cur1 h1
        have hdl : (cs.drop i).length = cs.length - i := List.length_drop ..
        have hrow : World.ownsRow ((w.drew.setCells g (0 + (i + 1)) (cs.drop i)).setCells g (0 + i) [.int .i64 x]) B 3 1 (.slice (some ⟨g, 0, none⟩) (cs.length + 1) cap) (cs.length + 1) xs := by
          refine owns_of hbg k1 hroom hcm (by omega) hil (fun k hk => ?_)
          rw [k3 k, h3 k, hia k, hdl, List.length_singleton]
          by_cases hki : k < i
          · rw [if_neg (by omega), if_neg (by omega), if_pos hki, hcur k (by omega)]
          · by_cases hke : k = i
            · rw [if_pos (by omega), if_neg hki, if_pos hke, hke]; simp
            · rw [if_neg (by omega), if_pos (by omega), if_neg hki, if_neg hke, List.getElem?_drop, show i + (k - (0 + (i + 1))) = k - 1 by omega]
        exact ⟨_, rfl, hil ▸ hrow, (Kp.of_gr (Gr.drewN (Gr.rfl' w) 1)).trans ((Kp.cells (C := fun b => (Value.slice (some ⟨g, 0, none⟩) cs.length cap).ownBlock = some b) (g := g) rfl _ _ _).trans (Kp.cells (C := fun b => (Value.slice (some ⟨g, 0, none⟩) cs.length cap).ownBlock = some b) (g := g) rfl _ _ _)), .inl rfl⟩
      · obtain rfl : i = cs.length := by omega
        refine (Any2.slices_Insert_int_end_room insLays g 0 cs.length cap vb 0 1 1 [.int .i64 x] w (by decide) hroom hc63 rfl (fun j hj => hthere _ (by omega)) (fun j _ => hfz _) hvs h1v).mono ?_
        rintro e w' ⟨rfl, rfl⟩
        obtain ⟨cur2, k1, k2, k3⟩ := heap_setCells (g := g) (e := 3) (fz := (0, 0)) [.int .i64 x] (0 + cs.length) _ cur hg
        have hrow : World.ownsRow (w.setCells g (0 + cs.length) [.int .i64 x]) B 3 1 (.slice (some ⟨g, 0, none⟩) (cs.length + 1) cap) (cs.length + 1) xs := by
          refine owns_of hbg k1 hroom hcm (by omega) hil (fun k hk => ?_)
          rw [k3 k, hia k, List.length_singleton]
          by_cases hki : k < cs.length
          · rw [if_neg (by omega), if_pos hki, hcur k hki]
          · rw [if_pos (by omega), if_neg hki, if_pos (by omega), show k - (0 + cs.length) = 0 by omega]; rfl
        exact ⟨_, rfl, hil ▸ hrow, Kp.cells (C := fun b => (Value.slice (some ⟨g, 0, none⟩) cs.length cap).ownBlock = some b) (g := g) rfl _ _ _, .inl rfl⟩
    · have hge := grownCap_ge w (cs.length + 1) cap 3
      have hle := grownCap_le_maxLen w (cs.length + 1) cap 3 (by simp only [maxLen]; omega)
      by_cases hlt : i < cs.length
      · refine (Any2.slices_Insert_int_grow insLays g 0 cs.length cap i vb 0 1 1 cs [.int .i64 x] w hlt (by decide) hnc (by omega) hbig rfl rfl hcell hvs h1c h1v).mono ?_
        rintro e w' ⟨rfl, rfl⟩
        simp only [show insRen.t 3 = 3 from rfl]
        have hnew := heap_alloc_new w (.cells ((cs.take i).toArray ++ Builtin.zeroCells (Value.int .i64 0).cells (cs.length + 1 - i) ++ Builtin.zeroCells (Value.int .i64 0).cells (grownCap w (cs.length + 1) cap 3 - (cs.length + 1))) 3)
        have hs0 : ((cs.take i).toArray ++ Builtin.zeroCells (Value.int .i64 0).cells (cs.length + 1 - i) ++ Builtin.zeroCells (Value.int .i64 0).cells (grownCap w (cs.length + 1) cap 3 - (cs.length + 1))).size = grownCap w (cs.length + 1) cap 3 := by
          rw [Array.size_append, Array.size_append, zeros_size, zeros_size, List.size_toArray, List.length_take]; omega
        have hg0 : ∀ k, k < i → ((cs.take i).toArray ++ Builtin.zeroCells (Value.int .i64 0).cells (cs.length + 1 - i) ++ Builtin.zeroCells (Value.int .i64 0).cells (grownCap w (cs.length + 1) cap 3 - (cs.length + 1)))[k]? = cs[k]? := by
          intro k hk
          rw [Array.getElem?_append_left (by rw [Array.size_append, List.size_toArray, List.length_take]; omega), Array.getElem?_append_left (by rw [List.size_toArray, List.length_take]; omega), List.getElem?_toArray, List.getElem?_take, if_pos hk]
        have hkp : Kp (fun b => b = w.heap.size) w (w.alloc (.cells ((cs.take i).toArray ++ Builtin.zeroCells (Value.int .i64 0).cells (cs.length + 1 - i) ++ Builtin.zeroCells (Value.int .i64 0).cells (grownCap w (cs.length + 1) cap 3 - (cs.length + 1))) 3)) :=
          Kp.of_gr ((Below.refl _ w).alloc (Nat.le_refl _) _)
        generalize ((cs.take i).toArray ++ Builtin.zeroCells (Value.int .i64 0).cells (cs.length + 1 - i) ++ Builtin.zeroCells (Value.int .i64 0).cells (grownCap w (cs.length + 1) cap 3 - (cs.length + 1))) = cur0 at *
        obtain ⟨cur1, h1, h2, h3⟩ := heap_setCells (g := w.heap.size) (e := 3) (fz := (0, 0)) [.int .i64 x] i (w.alloc (.cells cur0 3)).drew cur0 hnew
        obtain ⟨cur2, k1, k2, k3⟩ := heap_setCells (g := w.heap.size) (e := 3) (fz := (0, 0)) (cs.drop i) (i + 1) ((w.alloc (.cells cur0 3)).drew.setCells w.heap.size i [.int .i64 x]).drew cur1 h1
        have hdl : (cs.drop i).length = cs.length - i := List.length_drop ..
        have hrow : World.ownsRow ((((w.alloc (.cells cur0 3)).drew.setCells w.heap.size i [.int .i64 x]).drew).setCells w.heap.size (i + 1) (cs.drop i)) B 3 1 (.slice (some ⟨w.heap.size, 0, none⟩) (cs.length + 1) (grownCap w (cs.length + 1) cap 3)) (cs.length + 1) xs := by
          refine owns_of hB k1 hge hle (by omega) hil (fun k hk => ?_)
          rw [k3 k, h3 k, hia k, hdl, List.length_singleton]
          by_cases hki : k < i
          · rw [if_neg (by omega), if_neg (by omega), if_pos hki, hg0 k hki]
          · by_cases hke : k = i
            · rw [if_neg (by omega), if_pos (by omega), if_neg hki, if_pos hke, hke, Nat.sub_self]; rfl
            · rw [if_pos (by omega), if_neg hki, if_neg hke, List.getElem?_drop, show i + (k - (i + 1)) = k - 1 by omega]
        have hk2 : Kp (fun b => b = w.heap.size) w ((((w.alloc (.cells cur0 3)).drew.setCells w.heap.size i [.int .i64 x]).drew).setCells w.heap.size (i + 1) (cs.drop i)) :=
          hkp.trans ((Kp.of_gr (Gr.drewN (Gr.rfl' _) 1)).trans ((Kp.cells (C := fun b => b = w.heap.size) (g := w.heap.size) rfl _ _ _).trans ((Kp.of_gr (Gr.drewN (Gr.rfl' _) 1)).trans (Kp.cells (C := fun b => b = w.heap.size) (g := w.heap.size) rfl _ _ _))))
        exact ⟨_, rfl, by rw [hil]; exact hrow, hk2.weaken (fun b hb he => absurd he (Nat.ne_of_lt hb)), .inr rfl⟩
      · obtain rfl : i = cs.length := by omega
        refine (Any2.slices_Insert_int_end_grow insLays (some ⟨g, 0, none⟩) cs.length cap vb 0 1 1 cs [.int .i64 x] w (by decide) hnc (by omega) hbig rfl rfl (fun h => by cases h) (fun a ha j u hu => by cases ha; rw [Addr.add_lit]; exact hcell j u hu) hvs h1v).mono ?_
        rintro e w' ⟨rfl, rfl⟩
        have hrow := owns_grown (w := w) (B := B) (e := 3) (xs := xs) (n := cs.length + 1) hB hil hge hle
        have hx' : xs = cs ++ [.int .i64 x] := by rw [← hxs]; simp
        rw [hx'] at hrow hil ⊢
        exact ⟨_, rfl, by rw [hil]; exact hrow, Kp.of_gr ((Below.refl _ w).drew.alloc (Nat.le_refl _) _), .inr rfl⟩

end Go.Proofs.Yteonakicoomjkaa

namespace Go.Proofs.Yteonakicoomjkaa
open Go.RowKit Go.Lib

set_option maxHeartbeats 1000000 in
set_option maxRecDepth 100000 in
theorem growT_some (n : Nat) (hn : 0 < n) (hb : n * 56 ≤ 140737488351232) (w : World) : Calls Try.prog 198 #[.slice none 0 0, .int .i64 n] w fun e w' => ∃ v, e = .returned v ∧ w'.ownsRow w.heap.size 24 4 v 0 [] ∧ Gr w w' := by
  obtain ⟨i0, hi, hz0, hz1, hz2⟩ := info_parts infoTermM
  have hr := run_append_nil_zeros (P := Try.prog) w 22 3 22 24 i0 _ .i64 .i64 Try.underlying22 Try.underlying3 hi hz0 n hn (by rw [hz1]; decide) (by omega) (by rw [hz2]; omega)
  have hge : n ≤ grownCap w n 0 24 := grownCap_ge w n 0 _
  have hcm : grownCap w n 0 24 ≤ maxLen := grownCap_le_maxLen w n 0 _ (by simp only [maxLen]; omega)
  generalize grownCap w n 0 24 = C at *
  generalize hw1 : w.drew.alloc _ = w1 at hr
  have hown : w1.ownsRow w.heap.size 24 4 (.slice (some ⟨w.heap.size, 0, none⟩) 0 C) 0 [] := by
    rw [← hw1]
    refine ⟨by simp, .inr ⟨w.heap.size, C, _, rfl, Nat.le_refl _, heap_alloc_new w.drew _, Nat.zero_le _, hcm, ?_, by simp⟩⟩
    have h9 : (Value.cells (.agg #[.int .i64 0, .int .i64 0, .string ⟨#[]⟩, .slice none 0 0])).size = 4 := rfl
    rw [Array.size_append, size_zeroCells, size_zeroCells, h9]
    omega
  have hgr : Gr w w1 := by rw [← hw1]; go_grown
  clear hw1
  have Hr := Lib.hid hr
  generalize hQ : (fun (e : Ending) (w' : World) => ∃ v, e = .returned v ∧ w'.ownsRow w.heap.size 24 4 v 0 [] ∧ Gr w w') = Q
  have hR : Hid (∀ v, w1.ownsRow w.heap.size 24 4 v 0 [] → Q (.returned v) w1) := fun v h => by rw [← hQ]; exact ⟨v, rfl, h, hgr⟩
  have Ho := Lib.hid hown
  have hw0 : IntKind.i64.wrap (n : Int) = n := IntWalk.i64_in _ (by omega)
  have hne : ¬ ((n : Int) < 0) := by omega
  have hpo : (0 : Int) < n := by omega
  clear hQ hr hown hgr hi hz0 hz1 hz2 hge hcm i0
  go_enter Try.func198, Try.ntmps198
  go_wp2_with (first
    | (refine wpList_append_run w rfl _ _ _ _ rfl _ _ (by rfl) (by rfl) _ _ Hr.out ?_)
    | fail)
  exact hR.out _ Ho.out

set_option maxRecDepth 100000 in
theorem growT_calls (n : Nat) (hb : n * 56 ≤ 140737488351232) (w : World) : Calls Try.prog 198 #[.slice none 0 0, .int .i64 n] w fun e w' => ∃ v, e = .returned v ∧ w'.ownsRow w.heap.size 24 4 v 0 [] ∧ Gr w w' := by
  by_cases hn : 0 < n
  · exact growT_some n hn hb w
  · obtain rfl : n = 0 := by omega
    generalize hQ : (fun (e : Ending) (w' : World) => ∃ v, e = .returned v ∧ w'.ownsRow w.heap.size 24 4 v 0 [] ∧ Gr w w') = Q
    have hR : Hid (∀ w1, Gr w w1 → Q (.returned (.slice none 0 0)) w1) := fun w1 h => by rw [← hQ]; exact ⟨_, rfl, World.ownsRow_nil _ _ _ _, h⟩
    clear hQ
    go_enter Try.func198, Try.ntmps198
    go_wp2_with fail
    exact hR.out _ (by go_grown)

set_option maxHeartbeats 2000000 in
set_option maxRecDepth 100000 in
theorem concatT_calls (a : Nat) (rs : List Rw) (w : World) (hrs : ∀ r ∈ rs, r.In 4 w) (hc : ∀ i r, rs[i]? = some r → w.cell? ⟨a, i, none⟩ = some (.slice r.p r.n r.c)) (hsum : sumN rs * 56 ≤ 140737488351232) (hk : rs.length ≤ 1000) :
    Calls Try.prog 144 #[.slice (some ⟨a, 0, none⟩) rs.length rs.length] w fun e w' => ∃ v, e = .returned v ∧ w'.ownsRow w.heap.size 24 4 v (sumN rs) (rs.flatMap Rw.cs) ∧ Gr w w' := by
  generalize hQ : (fun (e : Ending) (w' : World) => ∃ v, e = .returned v ∧ w'.ownsRow w.heap.size 24 4 v (sumN rs) (rs.flatMap Rw.cs) ∧ Gr w w') = Q
  have hR : Hid (∀ v w', w'.ownsRow w.heap.size 24 4 v (sumN rs) (rs.flatMap Rw.cs) → Gr w w' → Q (.returned v) w') := fun v w' h hg => by rw [← hQ]; exact ⟨v, rfl, h, hg⟩
  clear hQ
  have Hrs := Lib.hid hrs
  have Hc := Lib.hid hc
  have Hsum := Lib.hid hsum
  clear hrs hc
  go_enter Try.func144, Try.ntmps144
  try simp only [List.append_eq, List.cons_append, List.nil_append]
  go_wp2_with fail
  go_loopg [3, 11] rs.length (fun m s i wr => ∃ k : Nat, k ≤ rs.length ∧ m = rs.length - k ∧ s = .int .i64 (sumN (rs.take k) : Nat) ∧ i = .int .i64 k ∧ w = wr)
  case atStart => exact ⟨0, Nat.zero_le _, rfl, rfl, rfl, rfl⟩
  case round =>
    obtain ⟨k, hkl, rfl, rfl, rfl, rfl⟩ := hrel
    by_cases hlt : k < rs.length
    · have cj := Hc.out k rs[k] (List.getElem?_eq_getElem hlt)
      have hst := sumN_take rs k hlt
      have hle : sumN (rs.take (k + 1)) ≤ sumN rs := sumN_le rs (k + 1)
      have hs64 := Hsum.out
      generalize sumN (rs.take k) = S0 at *
      generalize hS1 : sumN (rs.take (k + 1)) = S1 at *
      generalize rs[k] = r at *
      have hw1 : IntKind.i64.wrap ((S0 : Int) + (r.n : Int)) = (S1 : Nat) := by rw [IntWalk.i64_in _ (by omega)]; omega
      have hne : ¬ (((S1 : Nat) : Int) < 0) := by omega
      clear hst hle hs64
      go_wp2_with fail
      go_roundg (rs.length - (k + 1))
      case measure => omega
      case rel => exact ⟨k + 1, by omega, rfl, by rw [hS1], by go_num, rfl⟩
    · obtain rfl : k = rs.length := by omega
      have hta : sumN (rs.take rs.length) = sumN rs := by rw [List.take_length]
      rw [hta]
      have Hgr := Lib.hid (growT_calls (sumN rs) hsum w)
      clear hta
      go_wp2_with (first
        | (go_at_call 198; refine Hgr.out.mono ?_; rintro e w2 ⟨v0, rfl, ho, hg⟩; have Ho := Lib.hid ho; have Hg := hg; clear ho hg)
        | fail)
      go_loopg [6, 27] rs.length (fun n v i wr => ∃ (j : Nat) (u : Value), u = v ∧ j ≤ rs.length ∧ n = rs.length - j ∧ i = .int .i64 j ∧ Gr w wr ∧ Hid (wr.ownsRow w.heap.size 24 4 u (sumN (rs.take j)) ((rs.take j).flatMap Rw.cs)))
      case atStart => exact ⟨0, _, rfl, Nat.zero_le _, rfl, rfl, Hg, Ho⟩
      case round =>
        obtain ⟨i0, hi, hz0, hz1, hz2⟩ := info_parts infoTermM
        obtain ⟨j, v, rfl, hj, rfl, rfl, gr, ho⟩ := hrel
        by_cases hlt : j < rs.length
        · have cj := Gr.at gr (Hc.out j rs[j] (List.getElem?_eq_getElem hlt))
          have hin := Hrs.out rs[j] (List.getElem_mem hlt)
          have hst := sumN_take rs j hlt
          have hfl := flat_take rs j hlt
          have hle : sumN (rs.take (j + 1)) ≤ sumN rs := sumN_le rs (j + 1)
          have hs64 := Hsum.out
          generalize hS0 : sumN (rs.take j) = S0 at *
          generalize hS1 : sumN (rs.take (j + 1)) = S1 at *
          generalize hF0 : (rs.take j).flatMap Rw.cs = F0 at *
          generalize rs[j] = r at *
          obtain ⟨p, n, c, cs⟩ := r
          simp only at cj hst hfl hin
          have ho' := ho.out
          by_cases h0 : n = 0
          · subst h0
            have hcs0 : cs = [] := List.eq_nil_of_length_eq_zero (by have := hin.1; simpa using this)
            obtain ⟨q, cp, rfl, hcp⟩ := row_form ho'
            have hr := run_append_empty (P := Try.prog) wr 22 22 24 i0 Try.underlying22 hi q _ cp p c hcp
            have Hr := Lib.hid hr
            have hnx : Hid (wr.ownsRow w.heap.size 24 4 (.slice q S0 cp) S1 ((rs.take (j + 1)).flatMap Rw.cs)) := by
              show World.ownsRow _ _ _ _ _ _ _
              rw [hfl, hcs0, List.append_nil, hst]
              exact ho'
            clear hr ho' hst hfl hle hs64 hin hcs0 hi hz0 hz1 hz2
            go_wp2_with (first
              | (refine wpList_append_run wr rfl _ _ _ _ rfl _ _ (by rfl) (by rfl) _ _ Hr.out ?_)
              | fail)
            go_roundg (rs.length - (j + 1))
            case measure => omega
            case rel => exact ⟨j + 1, _, rfl, by omega, rfl, by go_num, gr, by rw [hS1]; exact hnx⟩
          · obtain ⟨hcl, hone, h0' | ⟨b, o, hp, hcells⟩⟩ := hin
            · exact absurd h0' h0
            · simp only at hp hcl hone hcells
              subst hp
              obtain ⟨v', w', hr, h2, h3, h4⟩ := run_append_own_fresh (P := Try.prog) wr w.heap.size 22 22 24 i0 _ 4 56 Try.underlying22 hi hz0 hz1 hz2 rfl (by decide) v S0 F0 ho'
                ⟨b, o, none⟩ n c cs hcl (fun j u hu => by rw [Go.WideShapes.add_plain]; exact Gr.at gr (hcells j u hu)) hone (by simp only [maxLen]; omega) (by omega) gr.size (by omega)
              have Hr := Lib.hid hr
              have hlt' := ho'.lt
              have gr' : Gr w w' := Below.trans gr (grownBy_below h3 gr.size fun k hk => (hlt' k hk).1)
              have hnx : Hid (w'.ownsRow w.heap.size 24 4 v' S1 ((rs.take (j + 1)).flatMap Rw.cs)) := by
                show World.ownsRow _ _ _ _ _ _ _
                rw [hfl, hst]
                exact h2
              clear hr h2 h3 h4 ho' hst hfl hle hs64 hcl hone hcells hi hz0 hz1 hz2 hlt'
              go_wp2_with (first
                | (refine wpList_append_run wr rfl _ _ _ _ rfl _ _ (by rfl) (by rfl) _ _ Hr.out ?_)
                | fail)
              go_roundg (rs.length - (j + 1))
              case measure => omega
              case rel => exact ⟨j + 1, _, rfl, by omega, rfl, by go_num, gr', by rw [hS1]; exact hnx⟩
        · obtain rfl : j = rs.length := by omega
          have ho' : Hid (wr.ownsRow w.heap.size 24 4 v (sumN rs) (rs.flatMap Rw.cs)) := by
            have h := ho.out
            rw [List.take_length] at h
            exact h
          go_wp2_with fail
          exact hR.out v _ ho'.out gr
end Go.Proofs.Yteonakicoomjkaa
