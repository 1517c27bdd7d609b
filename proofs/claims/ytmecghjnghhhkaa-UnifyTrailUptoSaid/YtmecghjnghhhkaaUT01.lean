/-
  Arguments of type []api.Term and []int that can be read, and how many elements they have at most.
  Arguments of type []api.Pair that can be read, and how many elements they have at most.
  hornref.FitsStore: it says something.
  Stores with all that is known of them; two that share only what came in.
-/
import Derived.Test.YtmecghjnghhhkaaUO02
import Derived.Test.YtmecghjnghhhkaaUO04
import Derived.Test.YtmecghjnghhhkaaRows
import Derived.Test.YtmecghjnghhhkaaUO21
import Derived.Test.YtmecghjnghhhkaaUP01
import Derived.Test.YtmecghjnghhhkaaUP02
namespace Go.Proofs.Ytmecghjnghhhkaa
open Go.ChangeShapes Go.WideShapes Go.ChangeAt Go.RowKit Go.Deep

/-- A slice of numbers. -/
structure Ints where
  p : Option Addr
  c : Nat
  l : List Int
def Ints.val (x : Ints) : Value := .slice x.p x.l.length x.c
def Ints.In (w : World) (x : Ints) : Prop :=
  x.l.length ≤ x.c ∧ (x.l.length * 8 ≤ 140737488351232 ∧ x.c ≤ 9223372036854775807) ∧ (x.l = [] ∨ ∃ b o, x.p = some ⟨b, o, none⟩ ∧ b < w.heap.size ∧ ∀ i n, x.l[i]? = some n → w.cell? ⟨b, o + i, none⟩ = some (.int .i64 n)) ∧ ∀ n ∈ x.l, In64 n
theorem Ints.In.mono {w w' : World} {x : Ints} (h : x.In w) (hg : Gr w w') : x.In w' :=
  ⟨h.1, h.2.1, h.2.2.1.imp id fun ⟨b, o, h1, h2, h3⟩ => ⟨b, o, h1, Nat.lt_of_lt_of_le h2 hg.size, fun i n hn => Gr.at hg (h3 i n hn)⟩, h.2.2.2⟩
/-- A slice of terms. -/
structure Tms where
  p : Option Addr
  c : Nat
  l : List Tm
def Tms.val (x : Tms) : Value := .slice x.p x.l.length x.c
def Tms.In (w : World) (x : Tms) : Prop := Tm.Sl w x.p x.c x.l

section
variable {H : Type} {enc : TypeId × Value → H} {W : World}

theorem bulk_pos (d : DataW H) : 1 ≤ Rows.uptoBulk d := by
  cases d with
  | lit x => cases x <;> simp [Rows.uptoBulk]
  | _ => simp [Rows.uptoBulk]
theorem bulkAll_len : ∀ ds : List (DataW H), ds.length ≤ Rows.uptoBulkAll ds
  | [] => Nat.zero_le _
  | d :: ds => by
    have := bulk_pos d
    have := bulkAll_len ds
    rw [Rows.uptoBulkAll, List.length_cons]
    omega
theorem bulk_slice {T E : TypeId} (ht : Try.prog.underlying T = some (.slice E)) {fuel : Nat} {q : Option Addr} {n c : Nat} {x : DataW H × List MemPlace} (h : DataW.trod enc Try.prog W 0 (fun _ => true) true fuel T [.slice q n c] = some x) : n ≤ Rows.uptoBulk x.1 := by
  rcases DataW.trod_slice ht h with ⟨hcs, _⟩ | ⟨a, len, cap, elems, rest, n', hm, hcs, hx, _, hlc, hcm, hle, _⟩
  · simp only [List.cons.injEq, Value.slice.injEq, and_true] at hcs
    omega
  · simp only [List.cons.injEq, Value.slice.injEq, and_true] at hcs
    subst hx
    have := bulkAll_len (elems.map (·.1))
    rw [List.length_map] at this
    simp only [Rows.uptoBulk]
    omega

theorem open_tm1 (fuel : Nat) (cs : List Value) (x : DataW H × List MemPlace) (h : DataW.trod enc Try.prog W 0 (fun _ => true) true fuel 27 cs = some x)
    (hw : ∀ n ∈ x.1.weights Try.prog 27, n ≤ reachBytes) : ∃ y : Tm, cs = y.cells ∧ y.In W := open_term fuel cs x h hw
theorem bytesI : Try.prog.bytesOf 3 = 8 := by kernel_rfl
theorem open_i1 (fuel : Nat) (cs : List Value) (x : DataW H × List MemPlace) (h : DataW.trod enc Try.prog W 0 (fun _ => true) true fuel 3 cs = some x)
    (_ : ∀ n ∈ x.1.weights Try.prog 3, n ≤ reachBytes) : ∃ y : Int, cs = [.int .i64 y] ∧ In64 y := by
  obtain ⟨k, hk, _, wk⟩ := DataW.trod_int Try.underlying3 h
  exact ⟨k, hk, bounds64 wk⟩

set_option maxRecDepth 100000 in
theorem open_termsU_arg {r : Reach} {b0 : Nat} {v : Value} {d : DataW H} {p : List MemPlace} (hv : Value.okWide Try.prog W r b0 25 v)
    (h : DataW.Trod enc Try.prog W 0 (fun _ => true) true 25 v d p) (hw : ∀ n ∈ d.weights Try.prog 25, n ≤ reachBytes) : ∃ x : Tms, v = x.val ∧ x.In W ∧ x.l.length ≤ Rows.uptoBulk d := by
  obtain ⟨a0, len0, cap0, rfl⟩ := okWide_slice Try.underlying25 hv
  obtain ⟨fuel, hf⟩ := h
  have hbk := bulk_slice Try.underlying25 hf
  rcases open_slice_el Tm.cells (fun y => y.In W) Try.underlying25 cellsTerm bytesTerm open_tm1 hf hw with hcs | ⟨a, cap, l, hcs, h1, h2, h3, h4⟩
  · simp [Value.cells] at hcs
    obtain ⟨rfl, rfl, rfl⟩ := hcs
    exact ⟨⟨none, 0, []⟩, rfl, ⟨Nat.le_refl _, ⟨by simp, by simp⟩, .inl rfl, by rw [Tm.InL]; trivial⟩, Nat.zero_le _⟩
  · simp [Value.cells] at hcs
    obtain ⟨rfl, rfl, rfl⟩ := hcs
    refine ⟨⟨some a, cap0, l⟩, rfl, ⟨h1, ⟨by simp only; omega, h2⟩, ?_, Tm.InL_of fun y hy => ?_⟩, hbk⟩
    · by_cases hl0 : l = []
      · exact .inl hl0
      · right
        have h0 : 0 < l.length := List.length_pos_iff.2 hl0
        obtain ⟨h10, _⟩ := h4 0 l[0] (List.getElem?_eq_getElem h0)
        obtain ⟨_, _, hc⟩ := World.cells?_some h10
        have hc0 := hc 0 (by omega)
        obtain ⟨b, o, spot⟩ := a
        have hspot : spot = none := by
          have h13 : W.cell? ⟨b, o, spot⟩ = some (.int .i64 l[0].k) := by simpa [Addr.add, Tm.cells] using hc0
          exact World.cell?_spot h13
        subst hspot
        refine ⟨b, o, rfl, fun i x hx => ?_⟩
        obtain ⟨h10, _⟩ := h4 i x hx
        obtain ⟨_, _, hc⟩ := World.cells?_some h10
        have e0 := hc 0 (by omega)
        have e1 := hc 1 (by omega)
        have e2 := hc 2 (by omega)
        have e3 := hc 3 (by omega)
        rw [add_plain, add_plain] at e0 e1 e2 e3
        exact ⟨e0, e1, e2, e3⟩
    · obtain ⟨i, hi, rfl⟩ := List.getElem_of_mem hy
      exact (h4 i l[i] (List.getElem?_eq_getElem hi)).2

set_option maxRecDepth 100000 in
theorem open_intsU_arg {r : Reach} {b0 : Nat} {v : Value} {d : DataW H} {p : List MemPlace} (hv : Value.okWide Try.prog W r b0 74 v)
    (h : DataW.Trod enc Try.prog W 0 (fun _ => true) true 74 v d p) (hw : ∀ n ∈ d.weights Try.prog 74, n ≤ reachBytes) : ∃ x : Ints, v = x.val ∧ x.In W ∧ x.l.length ≤ Rows.uptoBulk d := by
  obtain ⟨a0, len0, cap0, rfl⟩ := okWide_slice Try.underlying74 hv
  obtain ⟨fuel, hf⟩ := h
  have hbk := bulk_slice Try.underlying74 hf
  rcases open_slice_el (fun y : Int => [.int .i64 y]) In64 Try.underlying74 cellsI bytesI open_i1 hf hw with hcs | ⟨a, cap, l, hcs, h1, h2, h3, h4⟩
  · simp [Value.cells] at hcs
    obtain ⟨rfl, rfl, rfl⟩ := hcs
    exact ⟨⟨none, 0, []⟩, rfl, ⟨Nat.le_refl _, ⟨by simp, by simp⟩, .inl rfl, fun y hy => by simp at hy⟩, Nat.zero_le _⟩
  · simp [Value.cells] at hcs
    obtain ⟨rfl, rfl, rfl⟩ := hcs
    refine ⟨⟨some a, cap0, l⟩, rfl, ⟨h1, ⟨by simp only; omega, h2⟩, ?_, fun y hy => ?_⟩, hbk⟩
    · by_cases hl0 : l = []
      · exact .inl hl0
      · right
        have h0 : 0 < l.length := List.length_pos_iff.2 hl0
        obtain ⟨h10, _⟩ := h4 0 l[0] (List.getElem?_eq_getElem h0)
        obtain ⟨_, _, hc⟩ := World.cells?_some h10
        have hc0 := hc 0 (by omega)
        obtain ⟨b, o, spot⟩ := a
        have hc1 : W.cell? ⟨b, o, spot⟩ = some (.int .i64 l[0]) := by simpa [Addr.add] using hc0
        have hspot : spot = none := World.cell?_spot hc1
        subst hspot
        refine ⟨b, o, rfl, World.block_lt_of_cell? _ _ hc1, fun i x hx => ?_⟩
        obtain ⟨h10, _⟩ := h4 i x hx
        obtain ⟨_, _, hc⟩ := World.cells?_some h10
        have e0 := hc 0 (by omega)
        rw [add_plain, add_plain] at e0
        simpa using e0
    · obtain ⟨i, hi, rfl⟩ := List.getElem_of_mem hy
      exact (h4 i l[i] (List.getElem?_eq_getElem hi)).2
end
end Go.Proofs.Ytmecghjnghhhkaa

namespace Go.Proofs.Ytmecghjnghhhkaa
open Go.ChangeShapes Go.WideShapes Go.ChangeAt Go.RowKit Go.Deep

set_option maxRecDepth 100000 in
theorem open_pairsU_arg {H : Type} {enc : TypeId × Value → H} {W : World} {r : Reach} {b0 : Nat} {v : Value} {d : DataW H} {p : List MemPlace} (hv : Value.okWide Try.prog W r b0 22 v)
    (h : DataW.Trod enc Try.prog W 0 (fun _ => true) true 22 v d p) (hw : ∀ n ∈ d.weights Try.prog 22, n ≤ reachBytes) : ∃ x : Prs, v = x.val ∧ x.In W ∧ x.l.length ≤ Rows.uptoBulk d := by
  obtain ⟨x, rfl, hx⟩ := open_pairs_arg hv h hw
  obtain ⟨fuel, hf⟩ := h
  exact ⟨x, rfl, hx, bulk_slice Try.underlying22 hf⟩
end Go.Proofs.Ytmecghjnghhhkaa

namespace Go.Proofs.Ytmecghjnghhhkaa
open Go.RowKit Go.Maps Go.Lib

set_option maxHeartbeats 4000000 in
set_option maxRecDepth 100000 in
theorem fitsStore1_calls (p : Option Addr) (c : Nat) (l : List Pr) (t : Tm) (Bl Bt : Nat) (w : World) (h : (Prs.mk p c l).In w) (ht : t.In w) (hB : BlkT w Bl 22 #[.slice p l.length c]) (hT : BlkT w Bt 27 #[.int .i64 t.k, .int .i64 t.n, .string t.s, .slice t.p t.l.length t.c]) :
    Calls Try.prog 87 #[.pointer (some ⟨Bl, 0, none⟩), .pointer (some ⟨Bt, 0, none⟩)] w (RetOr (fun _ => True) w) := by
  have HL := Lib.hid h
  have It := Lib.hid ht
  have HBl := Lib.hid hB
  have HBt := Lib.hid hT
  have hll := h.2.1.1
  simp only at hll
  have hQ0 : Hid (∀ e w', (e = .returned (.tuple #[])) ∨ GrownE e → Gr w w' → RetOr (fun _ => True) w e w') := fun e w' h1 h2 => ⟨h1.elim (fun h => .inl ⟨h, trivial⟩) fun h => .inr ⟨h, trivial⟩, h2⟩
  generalize RetOr (fun _ => True) w = R at hQ0 ⊢
  have HR := hQ0
  clear h ht hB hT hQ0
  go_enter Try.func87, Try.ntmps87
  try simp only [List.append_eq, List.cons_append, List.nil_append]
  go_upto_region 1 with fail
  have hrs := RS.start (S := (· < w.heap.size)) (w := w) fun b hb => hb
  have gA : Gr w (w.alloc (.cells #[.slice none 0 0] 41)) := by go_grown
  generalize w.alloc (.cells #[.slice none 0 0] 41) = wA at *
  have Hrs := Lib.hid hrs
  clear hrs
  go_wp2_with fail
  go_loopg [3] l.length (fun m i wr => ∃ (k : Nat) (vq : Value) (lp : List Pr), k ≤ l.length ∧ m = l.length - k ∧ i = .int .i64 k ∧ Hid (RS (· < w.heap.size) wr w.heap.size vq lp) ∧ Hid (AllRob (seePrs lp)) ∧ lp.length ≤ k ∧ Gr w wr)
  case atStart => exact ⟨0, _, [], Nat.zero_le _, rfl, rfl, Hrs, AllRob.nil, Nat.le_refl _, gA⟩
  case round =>
    obtain ⟨k, vq, lp, hk, rfl, rfl, hrs, hrob, hlp, gr⟩ := hrel
    have x0 := (HBl.out.gr gr).cell 0 (v := .slice p l.length c) rfl
    have hwr : w.heap.size < wr.heap.size := hrs.out.blk.lt
    by_cases hlt : k < l.length
    · obtain ⟨b, o, rfl⟩ := HL.out.ptr (by omega)
      obtain ⟨⟨⟨c0, c1, c2, c3⟩, ⟨d0, d1, d2, d3⟩⟩, ⟨hia, hib⟩, hbl⟩ := (HL.out.mono gr).elem k hlt
      have hin0 := (HL.out.2.2.2 _ (List.getElem_mem hlt))
      have Oa := Lib.hid hin0.1.on
      have Ob := Lib.hid hin0.2.on
      have Hia := Lib.hid hia
      have Hib := Lib.hid hib
      have hl2 : (lp.length + 1) * 112 ≤ 140737488351232 := by omega
      clear hia hib hin0
      generalize l[k] = y at *
      have Hfa := Lib.hid (fun (W : World) (g : Gr wr W) => show Calls Try.prog 34 #[.agg #[.int .i64 y.a.k, .int .i64 y.a.n, .string y.a.s, .slice y.a.p y.a.l.length y.a.c]] W (Ret (.bool y.a.erase.formed) W) from rformed_calls (t := y.a) (Tm.In_below g Hia.out))
      have Hfb := Lib.hid (fun (W : World) (g : Gr wr W) => show Calls Try.prog 34 #[.agg #[.int .i64 y.b.k, .int .i64 y.b.n, .string y.b.s, .slice y.b.p y.b.l.length y.b.c]] W (Ret (.bool y.b.erase.formed) W) from rformed_calls (t := y.b) (Tm.In_below g Hib.out))
      generalize hfa : y.a.erase.formed = fa at *
      generalize hfb : y.b.erase.formed = fb at *
      have Hfa2 := Lib.hid hfa
      have Hfb2 := Lib.hid hfb
      clear hfa hfb
      go_wp2_with fail
      refine (Hfa.out wr (Gr.rfl' _)).mono ?_
      rintro e w1 ⟨rfl, hg1⟩
      replace hg1 : Gr wr w1 := hg1
      have x1 := Gr.at hg1 x0
      have dd0 := Gr.at hg1 d0
      have dd1 := Gr.at hg1 d1
      have dd2 := Gr.at hg1 d2
      have dd3 := Gr.at hg1 d3
      have cc0 := Gr.at hg1 c0
      have cc1 := Gr.at hg1 c1
      have cc2 := Gr.at hg1 c2
      have cc3 := Gr.at hg1 c3
      clear x0 c0 c1 c2 c3 d0 d1 d2 d3
      cases fa with
      | false =>
        have Hrs1 := Lib.hid (hrs.out.gr hg1)
        have g1 : Gr w w1 := gr.trans hg1
        go_wp2_with fail
        go_roundg (l.length - (k + 1))
        case measure => omega
        case rel => exact ⟨k + 1, _, lp, by omega, rfl, by go_num, Hrs1, hrob, by omega, g1⟩
      | true =>
        go_wp2_with fail
        refine (Hfb.out w1 hg1).mono ?_
        rintro e w2 ⟨rfl, hg12⟩
        replace hg12 : Gr w1 w2 := hg12
        have hg2 : Gr wr w2 := Gr.trans hg1 hg12
        have g2 : Gr w w2 := gr.trans hg2
        have x2 := Gr.at hg12 x1
        have d0 := Gr.at hg12 dd0
        have d1 := Gr.at hg12 dd1
        have d2 := Gr.at hg12 dd2
        have d3 := Gr.at hg12 dd3
        have c0 := Gr.at hg12 cc0
        have c1 := Gr.at hg12 cc1
        have c2 := Gr.at hg12 cc2
        have c3 := Gr.at hg12 cc3
        clear x1 dd0 dd1 dd2 dd3 cc0 cc1 cc2 cc3
        have Hrs2 := Lib.hid (hrs.out.gr hg2)
        cases fb with
        | false =>
          clear x2 d0 d1 d2 d3 c0 c1 c2 c3
          go_wp2_with fail
          go_roundg (l.length - (k + 1))
          case measure => omega
          case rel => exact ⟨k + 1, _, lp, by omega, rfl, by go_num, Hrs2, hrob, by omega, g2⟩
        | true =>
          go_upto_region 5 with fail
          refine wp_region_rely_tail 10 [fx (.slice (some ⟨b, o, none⟩) l.length c), fx (.int .i64 k), fx (.pointer (some ⟨b, o + k * 8, none⟩)), fx (.pointer (some ⟨b, o + k * 8, none⟩)), fx (.agg #[.int .i64 y.a.k, .int .i64 y.a.n, .string y.a.s, .slice y.a.p y.a.l.length y.a.c]), fx (.slice (some ⟨b, o, none⟩) l.length c), fx (.int .i64 k), fx (.pointer (some ⟨b, o + k * 8, none⟩)), fx (.pointer (some ⟨b, o + k * 8 + 4, none⟩)), fx (.agg #[.int .i64 y.b.k, .int .i64 y.b.n, .string y.b.s, .slice y.b.p y.b.l.length y.b.c])]
            (by kernel_rfl) (by kernel_rfl) (by decide) (by repeat (first | exact Stable.nil | refine Stable.fix ?_)) ?_ ?_
          · refine ⟨?_, ?_, ?_, ?_, ?_, ?_, ?_, ?_, ?_, ?_, trivial⟩
            all_goals
              intro a wr hg hold
              have h0 : a.tmps[0]?.getD undef = .pointer (some ⟨Bl, 0, none⟩) := hold 0 rfl
              have h3 : a.tmps[3]?.getD undef = .int .i64 k := hold 3 rfl
              have zx2 := Gr.at hg x2
              have zd0 := Gr.at hg d0
              have zd1 := Gr.at hg d1
              have zd2 := Gr.at hg d2
              have zd3 := Gr.at hg d3
              have zc0 := Gr.at hg c0
              have zc1 := Gr.at hg c1
              have zc2 := Gr.at hg c2
              have zc3 := Gr.at hg c3
              clear hold x2 d0 d1 d2 d3 c0 c1 c2 c3
              simp [predsImp, Region.binds, dstAt, fx]
              intros
              first
                | (rw [if_pos (by simp [*])]
                   intro K hK)
                | (rename_i K hK)
              go_simp
            all_goals exact hK _ _ rfl (Gr.rfl' _)
          · intro w9 hg
            rintro _ rfl _ rfl _ rfl _ rfl _ rfl _ rfl _ rfl _ rfl _ rfl _ rfl
            simp only [finAll, Act.put, List.setIfInBounds_toArray, List.set_cons_succ, List.set_cons_zero, List.drop_succ_cons, List.drop_zero, List.take_zero]
            have g9 : Gr w w9 := g2.trans hg
            have Hrs9 := Lib.hid (Hrs2.out.gr hg)
            have Hru := Lib.hid (show Calls Try.prog 82 #[.pointer (some ⟨w.heap.size, 0, none⟩), .agg #[.int .i64 y.a.k, .int .i64 y.a.n, .string y.a.s, .slice y.a.p y.a.l.length y.a.c], .agg #[.int .i64 y.b.k, .int .i64 y.b.n, .string y.b.s, .slice y.b.p y.b.l.length y.b.c]] w9 (RetRU (· < w.heap.size) w.heap.size (lp ++ [⟨y.a, y.b⟩]) w9) from rsUnify_calls Hrs9.out y.a y.b (Tm.In_below (hg2.trans hg) Hia.out) (Tm.In_below (hg2.trans hg) Hib.out) Oa.out Ob.out Hfa2.out Hfb2.out hl2)
            clear x2 d0 d1 d2 d3 c0 c1 c2 c3 hg
            go_wp2_with fail
            refine Hru.out.mono ?_
            rintro e w4 ⟨o, ho, hout⟩
            have ho2 := ho
            rw [seePrs_append] at ho2
            cases o with
            | grown =>
              obtain ⟨hE, g4⟩ := hout
              have hfin := HR.out e w4 (.inr hE) (g9.trans g4)
              rw [GrownE] at hE
              subst hE
              exact ⟨rfl, hfin⟩
            | clash =>
              obtain ⟨rfl, g4⟩ := hout
              have Hrs4 := Lib.hid (Hrs9.out.gr g4)
              have gw4 := g9.trans g4
              clear ho ho2
              go_wp2_with fail
              go_roundg (l.length - (k + 1))
              case measure => omega
              case rel => exact ⟨k + 1, _, lp, by omega, rfl, by go_num, Hrs4, hrob, by omega, gw4⟩
            | done r =>
              obtain ⟨rfl, v', hr4, k4, hv4⟩ := hout
              have Hr4 := Lib.hid hr4
              have Hrob4 : Hid (AllRob (seePrs (lp ++ [⟨y.a, y.b⟩]))) := by
                show AllRob _
                rw [seePrs_append]
                exact hrob.out.snoc ho2
              have g4 : Gr w w4 := Below.trans g9 (k4.below (fun b hb => by omega) g9.size)
              clear ho ho2 hr4 k4 hv4
              go_wp2_with fail
              go_roundg (l.length - (k + 1))
              case measure => omega
              case rel => exact ⟨k + 1, _, lp ++ [⟨y.a, y.b⟩], by omega, rfl, by go_num, Hr4, Hrob4, by rw [List.length_append, List.length_singleton]; omega, g4⟩
    · obtain rfl : k = l.length := by omega
      have Hfa := Lib.hid (fun (W : World) (g : Gr wr W) => show Calls Try.prog 34 #[.agg #[.int .i64 t.k, .int .i64 t.n, .string t.s, .slice t.p t.l.length t.c]] W (Ret (.bool t.erase.formed) W) from rformed_calls (t := t) (Tm.In_below (gr.trans g) It.out))
      obtain ⟨ρ, hρ⟩ := hrob.out.all
      have Hρ := Lib.hid hρ
      have hbt := HBt.out.gr gr
      have t0 := hbt.cell 0 (v := .int .i64 t.k) rfl
      have t1 := hbt.cell 1 (v := .int .i64 t.n) rfl
      have t2 := hbt.cell 2 (v := .string t.s) rfl
      have t3 := hbt.cell 3 (v := .slice t.p t.l.length t.c) rfl
      clear hbt hρ
      cases hft : t.erase.formed with
      | false =>
        rw [hft] at Hfa
        clear hft
        go_wp2_with fail
        refine (Hfa.out wr (Gr.rfl' _)).mono ?_
        rintro e w2 ⟨rfl, g2⟩
        replace g2 : Gr wr w2 := g2
        clear t0 t1 t2 t3
        go_wp2_with fail
        go_end0
        exact HR.out _ _ (.inl rfl) (gr.trans g2)
      | true =>
        rw [hft] at Hfa
        have Hft := Lib.hid hft
        clear hft
        go_wp2_with fail
        refine (Hfa.out wr (Gr.rfl' _)).mono ?_
        rintro e w2 ⟨rfl, g2⟩
        replace g2 : Gr wr w2 := g2
        have tt0 := Gr.at g2 t0
        have tt1 := Gr.at g2 t1
        have tt2 := Gr.at g2 t2
        have tt3 := Gr.at g2 t3
        have Hrr := Lib.hid (show Calls Try.prog 83 #[.pointer (some ⟨w.heap.size, 0, none⟩), .agg #[.int .i64 t.k, .int .i64 t.n, .string t.s, .slice t.p t.l.length t.c]] w2 (RetRR (· < w.heap.size) (T.map ρ t.erase) w2) from rsResolve_calls (hrs.out.gr g2) Hρ.out t (Tm.In_below (gr.trans g2) It.out) Hft.out)
        clear t0 t1 t2 t3
        go_wp2_with fail
        refine Hrr.out.mono ?_
        rintro e w3 ⟨g3, ⟨hE, -⟩ | ⟨-, u, rfl, -, -, -⟩⟩
        · have hfin := HR.out e w3 (.inr hE) ((gr.trans g2).trans g3)
          rw [GrownE] at hE
          subst hE
          exact ⟨rfl, hfin⟩
        · clear tt0 tt1 tt2 tt3
          go_wp2_with fail
          go_end0
          exact HR.out _ _ (.inl rfl) ((gr.trans g2).trans g3)

set_option maxHeartbeats 1000000 in
set_option maxRecDepth 100000 in
theorem fitsStore_calls (p : Option Addr) (c : Nat) (l : List Pr) (t : Tm) (w : World) (h : (Prs.mk p c l).In w) (ht : t.In w) :
    Calls Try.prog 24 #[.slice p l.length c, t.val] w (RetB (fun _ => True) w) := by
  have hmf : ∀ (fn : Fn) (first cap : Array Value) (w : World), (Instr.makeFunc fn first cap).run Try.prog w = .ok (.func fn first cap) w := fun _ _ _ _ => rfl
  have HL := Lib.hid h
  have It := Lib.hid ht
  have hR2 : Hid (∀ e W w', Gr w W → RetB (fun _ => True) W e w' → RetB (fun _ => True) w e w') := fun e W w' h1 ⟨b, h2, h3, h4⟩ => ⟨b, h2, h3, h1.trans h4⟩
  generalize RetB (fun _ => True) w = Q at hR2 ⊢
  have HR := hR2
  clear h ht hR2
  rw [show t.val = .agg #[.int .i64 t.k, .int .i64 t.n, .string t.s, .slice t.p t.l.length t.c] from rfl]
  go_enter Try.func24, Try.ntmps24
  try simp only [List.append_eq, List.cons_append, List.nil_append]
  go_upto_region 1 with fail
  have hB := BlkT.new w 22 #[.slice p l.length c]
  have gB : Gr w (w.alloc (.cells #[.slice p l.length c] 22)) := by go_grown
  have hT := BlkT.new (w.alloc (.cells #[.slice p l.length c] 22)) 27 #[.int .i64 t.k, .int .i64 t.n, .string t.s, .slice t.p t.l.length t.c]
  have gT : Gr (w.alloc (.cells #[.slice p l.length c] 22)) ((w.alloc (.cells #[.slice p l.length c] 22)).alloc (.cells #[.int .i64 t.k, .int .i64 t.n, .string t.s, .slice t.p t.l.length t.c] 27)) := by go_grown
  have hB2 := hB.gr gT
  have gA := gB.trans gT
  rw [World.size_alloc] at hT
  generalize ((w.alloc (.cells #[.slice p l.length c] 22)).alloc (.cells #[.int .i64 t.k, .int .i64 t.n, .string t.s, .slice t.p t.l.length t.c] 27)) = wA at *
  have hf := fits_calls 87 #[.pointer (some ⟨w.heap.size, 0, none⟩), .pointer (some ⟨w.heap.size + 1, 0, none⟩)] (fun _ => True) wA (fun W => rfl) (fun W g => fitsStore1_calls p c l t w.heap.size (w.heap.size + 1) W (HL.out.mono (gA.trans g)) (Tm.In_below (gA.trans g) It.out) (hB2.gr g) (hT.gr g))
  have Hf := Lib.hid hf
  clear hf hB hB2 hT gB gT
  go_wp2_with fail
  refine Hf.out.mono ?_
  rintro e w1 h1
  have hfin := HR.out e wA w1 gA h1
  obtain ⟨b, rfl, -, -⟩ := h1
  have Hfin := Lib.hid hfin
  clear hfin
  go_wp2_with fail
  exact Hfin.out
end Go.Proofs.Ytmecghjnghhhkaa

namespace Go.Proofs.Ytmecghjnghhhkaa
open Go.RowKit Go.Maps Go.Lib

/-- The variables that are bound, in order. -/
def Lof (ρ : Int → T) (L : List Int) : Prop := L.Pairwise (· < ·) ∧ ∀ n, n ∈ L ↔ ρ n ≠ varT n
theorem Lof.uniq {ρ : Int → T} {L L' : List Int} (h : Lof ρ L) (h' : Lof ρ L') : L = L' := by
  have hp : L.Perm L' := (List.perm_ext_iff_of_nodup (h.1.imp fun {a b} h => by omega) (h'.1.imp fun {a b} h => by omega)).2 fun n => (h.2 n).trans (h'.2 n).symm
  have e1 : L.mergeSort leI = L := List.mergeSort_of_pairwise (h.1.imp fun {a b} h => by simp only [leI, decide_eq_true_eq]; omega)
  have e2 : L'.mergeSort leI = L' := List.mergeSort_of_pairwise (h'.1.imp fun {a b} h => by simp only [leI, decide_eq_true_eq]; omega)
  rw [← e1, ← e2]
  exact mergeSort_of_perm_i hp
theorem ListOf.lof {ρ : Int → T} {s : List Bd} (h : ListOf ρ s) : Lof ρ (s.map Bd.v) := by
  refine ⟨List.pairwise_map.2 (asc_pairwise h.1), fun n => ?_⟩
  rw [List.mem_map]
  constructor
  · rintro ⟨y, hy, rfl⟩ h2
    have := h.mem hy
    exact this.2 (this.1.symm.trans h2)
  · intro h2
    obtain ⟨y, hy, h4, _⟩ := (h.2.1 n (ρ n)).2 ⟨rfl, h2⟩
    exact ⟨y, hy, h4⟩
theorem StoreOk.lof {σ : Int → Option T} {ρ : Int → T} (ho : StoreOk σ ρ) {tr : List Int} (hn : tr.Nodup) (ht : ∀ n, n ∈ tr ↔ σ n ≠ none) : Lof ρ (tr.mergeSort leI) := by
  have hperm := List.mergeSort_perm tr leI
  have htr : ∀ a b c : Int, leI a b = true → leI b c = true → leI a c = true := fun a b c h1 h2 => by simp only [leI, decide_eq_true_eq] at *; exact Int.le_trans h1 h2
  have hto : ∀ a b : Int, (leI a b || leI b a) = true := fun a b => by simp only [leI, Bool.or_eq_true, decide_eq_true_eq]; exact Int.le_total a b
  refine ⟨?_, fun n => ?_⟩
  · have h1 := List.pairwise_mergeSort htr hto tr
    have h2 : (tr.mergeSort leI).Nodup := hperm.nodup_iff.2 hn
    exact (h1.and h2).imp fun {a b} h => by
      have h3 := h.1
      have h4 : a ≠ b := h.2
      simp only [leI, decide_eq_true_eq] at h3
      omega
  · rw [hperm.mem_iff, ht]
    constructor
    · intro h h2
      exact h (ho.open_ h2)
    · intro h h2
      exact h (ho.free _ h2)

/-- A store: where it lies, what it knows. -/
structure StD where
  P : Nat
  M : Nat
  S : Nat → Prop
  vt : Value
  vm : Value
  σ : Int → Option T
  ρ : Int → T
  tr : List Int
  mks : List Int
  E : List (T × T)
def StD.mu (s : StD) : Nat → Prop := MutA s.P s.M s.vt s.vm
def StD.foot (s : StD) (b : Nat) : Prop := s.mu b ∨ s.S b
structure StD.In (B : Nat) (w : World) (s : StD) : Prop where
  sm : SM s.S B w s.P s.M s.vt s.vm s.σ s.tr s.mks
  hist : Hist s.E s.σ s.ρ s.tr s.mks
  low : ∀ b, b < B → s.S b
/-- What has become of a store. -/
structure StD.to (w : World) (s s' : StD) : Prop where
  P : s'.P = s.P
  mu : ∀ b, s'.mu b → s.mu b ∨ w.heap.size ≤ b
  foot : ∀ b, s'.foot b → s.foot b ∨ w.heap.size ≤ b
/-- Neither writes where the other reads. -/
def StD.apart (s t : StD) : Prop := (∀ b, s.mu b → ¬ t.foot b) ∧ ∀ b, t.mu b → ¬ s.foot b

section
variable {B : Nat} {w w' : World} {s t s' : StD}
theorem StD.to.rfl' (w : World) (s : StD) : StD.to w s s := ⟨rfl, fun _ h => .inl h, fun _ h => .inl h⟩
theorem StD.apart.swap (h : s.apart t) : t.apart s := ⟨h.2, h.1⟩
theorem StD.In.lt (h : s.In B w) {b : Nat} (hb : s.foot b) : b < w.heap.size := by
  rcases hb with ((hb | hb | hb) | hb) | hb
  · rw [hb]; exact h.sm.blk.lt
  · rw [hb]; exact h.sm.map.lt
  · exact own_lt h.sm.tro hb
  · exact own_lt h.sm.mko hb
  · exact (h.sm.sepS b hb).1
theorem StD.In.sep (h : s.In B w) {b : Nat} (hb : s.mu b) : ¬ s.S b := fun hS => by
  obtain ⟨_, h1, h2, h3, h4⟩ := h.sm.sepS b hS
  rcases hb with (hb | hb | hb) | hb
  · exact h1 hb
  · exact h2 hb
  · exact h3 hb
  · exact h4 hb
theorem StD.In.ge (h : s.In B w) {b : Nat} (hb : s.mu b) : B ≤ b := Nat.le_of_not_lt fun hlt => h.sep hb (h.low b hlt)
theorem StD.In.kp (h : s.In B w) {C : Nat → Prop} (k : Kp C w w') (hC : ∀ b, s.foot b → ¬ C b) : s.In B w' where
  sm := h.sm.kp k (hC _ (.inl (.inl (.inl rfl)))) (hC _ (.inl (.inl (.inr (.inl rfl))))) (fun b hb => hC b (.inl (.inl (.inr (.inr hb))))) (fun b hb => hC b (.inl (.inr hb))) fun b hb => hC b (.inr hb)
  hist := h.hist
  low := h.low
theorem StD.In.gr (h : s.In B w) (hg : Gr w w') : s.In B w' := { h with sm := h.sm.gr hg }
theorem StD.In.lens (h : s.In B w) : s.mks.length = s.E.length := h.hist.len.symm
theorem StD.In.ok (h : s.In B w) : StoreOk s.σ s.ρ := h.hist.ok
theorem StD.In.same (h : s.In B w) (k : t.In B w') (e : s.E = t.E) : s.ρ = t.ρ := by
  have h1 := h.hist.holds
  rw [e] at h1
  exact h1.uniq k.hist.holds h.ok.canon k.ok.canon
theorem StD.apart.step (h : s.apart t) (ht : t.In B w) (k : StD.to w s s') : s'.apart t :=
  ⟨fun b hb hf => (k.mu b hb).elim (fun h1 => h.1 b h1 hf) fun h1 => by have := ht.lt hf; omega, fun b hb hf => (k.foot b hf).elim (fun h1 => h.2 b hb h1) fun h1 => by have := ht.lt (.inl hb); omega⟩
theorem StD.to.trans {w1 : World} {s1 s2 : StD} (h : StD.to w s s1) (k : StD.to w1 s1 s2) (hs : w.heap.size ≤ w1.heap.size) : StD.to w s s2 :=
  ⟨k.P.trans h.P, fun b hb => (k.mu b hb).elim (h.mu b) fun h1 => .inr (Nat.le_trans hs h1), fun b hb => (k.foot b hb).elim (h.foot b) fun h1 => .inr (Nat.le_trans hs h1)⟩
end

theorem StD.to.early {w w0 : World} {s s' : StD} (h : StD.to w s s') (hw : w0.heap.size ≤ w.heap.size) : StD.to w0 s s' :=
  ⟨h.P, fun b hb => (h.mu b hb).imp id fun h1 => Nat.le_trans hw h1, fun b hb => (h.foot b hb).imp id fun h1 => Nat.le_trans hw h1⟩

/-- What a store says to a pair, and what it holds then. -/
def TookP (E : List (T × T)) (a b : T) (r : Bool) (E' : List (T × T)) : Prop :=
  if (a.formed && b.formed) = true then (r = true ∧ (∃ θ, Unif θ (E ++ [(a, b)])) ∧ E' = E ++ [(a, b)]) ∨ (r = false ∧ (¬ ∃ θ, Unif θ (E ++ [(a, b)])) ∧ E' = E) else r = false ∧ E' = E
theorem TookP.uniq {E E' E'' : List (T × T)} {a b : T} {r r' : Bool} (h : TookP E a b r E') (k : TookP E a b r' E'') : r = r' ∧ E' = E'' := by
  unfold TookP at h k
  split at h
  · rw [if_pos ‹_›] at k
    rcases h with ⟨h1, h2, h3⟩ | ⟨h1, h2, h3⟩ <;> rcases k with ⟨k1, k2, k3⟩ | ⟨k1, k2, k3⟩
    · exact ⟨h1.trans k1.symm, h3.trans k3.symm⟩
    · exact absurd h2 k2
    · exact absurd k2 h2
    · exact ⟨h1.trans k1.symm, h3.trans k3.symm⟩
  · rw [if_neg ‹_›] at k
    exact ⟨h.1.trans k.1.symm, h.2.trans k.2.symm⟩
theorem TookP.det (E : List (T × T)) (a b : T) : ∃ r : Bool, ∀ r' E', TookP E a b r' E' → r' = r := by
  by_cases h : ∃ r0 E0, TookP E a b r0 E0
  · obtain ⟨r0, E0, h⟩ := h
    exact ⟨r0, fun r' E' h' => (h'.uniq h).1⟩
  · exact ⟨true, fun r' E' h' => absurd ⟨r', E', h'⟩ h⟩
theorem TookP.more {E E' : List (T × T)} {a b : T} {r : Bool} (h : TookP E a b r E') : ∃ F, E' = E ++ F ∧ F.length ≤ 1 := by
  unfold TookP at h
  split at h
  · rcases h with ⟨_, _, h⟩ | ⟨_, _, h⟩
    · exact ⟨[(a, b)], h, Nat.le_refl _⟩
    · exact ⟨[], by rw [h, List.append_nil], Nat.zero_le _⟩
  · exact ⟨[], by rw [h.2, List.append_nil], Nat.zero_le _⟩
def errOf (f : Bool) : Int := if f then 0 else 2

def RetStU (B : Nat) (s : StD) (a b : T) (w : World) (e : Ending) (w' : World) : Prop :=
  ∃ (s' : StD) (r : Bool), e = .returned (.tuple #[.bool r, .int .i64 (errOf (a.formed && b.formed))]) ∧ TookP s.E a b r s'.E ∧ s'.In B w' ∧ Kp s.mu w w' ∧ StD.to w s s'

theorem stU_calls {B : Nat} {w : World} {s : StD} (h : s.In B w) (a b : Tm) (ia : a.In w) (ib : b.In w) (hmk : (s.E.length + 1) * 8 ≤ 140737488351232) :
    Calls Try.prog 26 #[.pointer (some ⟨s.P, 0, none⟩), a.val, b.val] w (RetStU B s a.erase b.erase w) := by
  refine (unify_calls h.sm h.ok a b ia ib (by rw [h.lens]; exact hmk)).mono ?_
  rintro e w' (⟨hf, rfl, hg⟩ | ⟨hf, S', r, vt', vm', σ', ρ', tr', mk', hS1, hS2, rfl, hj⟩)
  · refine ⟨s, false, by rw [hf]; rfl, ?_, h.gr hg, Kp.of_gr hg, StD.to.rfl' w s⟩
    rw [TookP, if_neg (by rw [hf]; decide)]
    exact ⟨rfl, rfl⟩
  · have hmut : ∀ x, MutA s.P s.M vt' vm' x → s.mu x ∨ w.heap.size ≤ x := fun x hx => by
      rcases Nat.lt_or_ge x w.heap.size with hlt | hge
      · left
        rcases hx with (hx | hx | hx) | hx
        · exact .inl (.inl hx)
        · exact .inl (.inr (.inl hx))
        · exact .inl (.inr (.inr (hj.lt x hx hlt)))
        · exact .inr (hj.lm x hx hlt)
      · exact .inr hge
    have hto : ∀ E', StD.to w s ⟨s.P, s.M, S', vt', vm', σ', ρ', tr', mk', E'⟩ := fun E' => ⟨rfl, hmut, fun x hx => hx.elim (fun hx => (hmut x hx).imp .inl id) fun hx => (hS2 x hx).imp .inr id⟩
    cases r with
    | true =>
      obtain ⟨j1, j2, j3, j4, new, j5, j6, j7⟩ := hj.yes rfl
      have hh := h.hist.holds.snoc j1 j2 j3
      refine ⟨⟨s.P, s.M, S', vt', vm', σ', ρ', tr', mk', s.E ++ [(a.erase, b.erase)]⟩, true, by rw [hf]; rfl, ?_, ⟨hj.sm, ?_, fun x hx => hS1 x (h.low x hx)⟩, hj.kp, hto _⟩
      · rw [TookP, if_pos hf]
        exact .inl ⟨rfl, ⟨ρ', hh.1⟩, rfl⟩
      · show Hist _ σ' ρ' tr' mk'
        rw [j4, j5]
        exact h.hist.step hj.ok hh j6 j7
    | false =>
      obtain ⟨rfl, rfl, rfl, rfl, j5⟩ := hj.no rfl
      refine ⟨⟨s.P, s.M, S', vt', vm', s.σ, s.ρ, s.tr, s.mks, s.E⟩, false, by rw [hf]; rfl, ?_, ⟨hj.sm, h.hist, fun x hx => hS1 x (h.low x hx)⟩, hj.kp, hto _⟩
      rw [TookP, if_pos hf]
      exact .inr ⟨rfl, fun ⟨θ, hθ⟩ => j5 θ (h.hist.holds.2 θ fun p hp => hθ p (List.mem_append_left _ hp)) (hθ (a.erase, b.erase) (List.mem_append_right _ (List.mem_singleton.2 rfl))), rfl⟩

def RetStUndo (B : Nat) (s : StD) (n : Nat) (w : World) (e : Ending) (w' : World) : Prop :=
  ∃ s' : StD, e = .returned (.int .i64 0) ∧ s'.E = s.E.take n ∧ s'.In B w' ∧ Kp s.mu w w' ∧ StD.to w s s'
theorem stUndo_calls {B : Nat} {w : World} {s : StD} (h : s.In B w) (n : Nat) (hn : n ≤ s.E.length) :
    Calls Try.prog 33 #[.pointer (some ⟨s.P, 0, none⟩), .int .i64 n] w (RetStUndo B s n w) := by
  by_cases h2 : n = s.mks.length
  · subst h2
    refine (undo_same h.sm).mono ?_
    rintro e w1 ⟨rfl, g1⟩
    exact ⟨s, rfl, by rw [h.lens, List.take_length], h.gr g1, Kp.of_gr g1, StD.to.rfl' w s⟩
  · have hlt : n < s.mks.length := by rw [← h.lens] at hn; omega
    obtain ⟨σk, ρk, trk, new, b1, b2, b3, b4, b5⟩ := h.hist.back n hlt
    have hs := h.sm
    rw [b2] at hs
    refine (undo_calls hs b3 b4 n hlt b5).mono ?_
    rintro e w1 ⟨rfl, vt', vm', hsm, k1, et, em⟩
    have hmut : ∀ x, MutA s.P s.M vt' vm' x → s.mu x := fun x hx => by
      rcases hx with (hx | hx | hx) | hx
      · exact .inl (.inl hx)
      · exact .inl (.inr (.inl hx))
      · exact .inl (.inr (.inr (by rw [← et]; exact hx)))
      · exact .inr (by rw [← em]; exact hx)
    exact ⟨⟨s.P, s.M, s.S, vt', vm', σk, ρk, trk, s.mks.take n, s.E.take n⟩, rfl, rfl, ⟨hsm, b1, h.low⟩, k1.mono fun b hb => .inl hb, rfl, fun x hx => .inl (hmut x hx), fun x hx => .inl (hx.imp (hmut x) id)⟩

theorem stMark_calls {B : Nat} {w : World} {s : StD} (h : s.In B w) : Calls Try.prog 20 #[.pointer (some ⟨s.P, 0, none⟩)] w (Ret (.int .i64 s.E.length) w) := by
  have := mark_calls h.sm
  rwa [h.lens] at this

/-- What a store makes of a term. -/
def madeT (ρ : Int → T) (t : T) : T := if t.formed then T.map ρ t else zeroT
def RetStR (s : StD) (t : T) (w : World) (e : Ending) (w' : World) : Prop :=
  ∃ u : Tm, e = .returned (.tuple #[u.val, .int .i64 (errOf t.formed)]) ∧ u.In w' ∧ u.erase = madeT s.ρ t ∧ Gr w w'
theorem stR_calls {B : Nat} {w : World} {s : StD} (h : s.In B w) (t : Tm) (it : t.In w) (ot : t.On (· < B)) :
    Calls Try.prog 29 #[.pointer (some ⟨s.P, 0, none⟩), t.val] w (RetStR s t.erase w) := by
  refine (resolve_calls h.sm h.ok t it (ot.mono h.low)).mono ?_
  rintro e w1 ⟨g1, ⟨hf, rfl⟩ | ⟨hf, u, rfl, iu, eu, -⟩⟩
  · exact ⟨zeroTm, by rw [hf]; rfl, zeroTm_in _, by rw [madeT, hf, zeroTm_erase]; rfl, g1⟩
  · exact ⟨u, by rw [hf]; rfl, iu, by rw [madeT, hf, eu]; rfl, g1⟩
def RetStB (s : StD) (w : World) (e : Ending) (w' : World) : Prop := ∃ v L, e = .returned v ∧ IntsOwn w' w.heap.size v L ∧ Lof s.ρ L ∧ (∀ n ∈ L, In64 n) ∧ Gr w w'
theorem stB_calls {B : Nat} {w : World} {s : StD} (h : s.In B w) : Calls Try.prog 22 #[.pointer (some ⟨s.P, 0, none⟩)] w (RetStB s w) := by
  refine (bound_calls h.sm).mono ?_
  rintro e w1 ⟨v, rfl, hv, g1⟩
  exact ⟨v, _, rfl, hv, h.ok.lof h.sm.trn h.sm.tri, fun n hn => by (have := h.sm.range n ((List.mergeSort_perm s.tr leI).mem_iff.1 hn); exact ⟨by omega, by omega⟩), g1⟩
/-- A new store. -/
theorem stNew_calls {B : Nat} (w : World) (hB : B ≤ w.heap.size) : Calls Try.prog 18 #[] w (fun e w' => ∃ s : StD, e = .returned (.pointer (some ⟨s.P, 0, none⟩)) ∧ s.E = [] ∧ s.In B w' ∧ (∀ b, s.mu b → w.heap.size ≤ b) ∧ (∀ b, s.S b ↔ b < B) ∧ Gr w w') := by
  refine (storeNew_calls w).mono ?_
  rintro e w1 ⟨rfl, hw⟩
  have hst := SM.start (S := (· < B)) (w := w) fun b hb => by omega
  rw [← hw] at hst
  refine ⟨⟨w.heap.size + 1, w.heap.size, (· < B), .slice none 0 0, .slice none 0 0, fun _ => none, varT, [], [], []⟩, rfl, rfl, ⟨{ hst with tro := World.ownsRow_nil _ _ _ 1, mko := World.ownsRow_nil _ _ _ 1, bnd := Nat.le_trans hB hst.bnd }, Hist.start, fun b hb => hb⟩, fun b hb => ?_, fun b => Iff.rfl, by rw [hw]; go_grown⟩
  rcases hb with (hb | hb | hb) | hb
  · rw [hb]; exact Nat.le_succ _
  · rw [hb]; exact Nat.le_refl _
  · cases hb
  · cases hb
end Go.Proofs.Ytmecghjnghhhkaa
