/-
  hornref.Fits: a function that may throw Grown; hornref.FitsPairs.
  unify.New, unify.Solve.
-/
import Derived.Test.YtjdoflfdlhpbmaaGreatBF27
import Derived.Test.YtjdoflfdlhpbmaaGreatBF30
import Derived.Defers
import Derived.Recover
import Derived.Test.YtjdoflfdlhpbmaaGreatBF06
import Derived.Test.YtjdoflfdlhpbmaaGreatBF19
namespace Go.Proofs.YtjdoflfdlhpbmaaGreat
open Go.RowKit Go.Lib

theorem neqI_nil (w : World) : (binOp .neq 20 .nilIface .nilIface).run Tryz.prog w = .ok (.bool false) w := by kernel_rfl
theorem neqI_gr (v : Value) (w : World) : (binOp .neq 20 (.iface 112 v) .nilIface).run Tryz.prog w = .ok (.bool true) w := by kernel_rfl
theorem assertI_gr (v : Value) (w : World) : (Instr.typeAssert (.iface 112 v) 20 112 true).run Tryz.prog w = .ok (.tuple #[v, .bool true]) w := by kernel_rfl

set_option maxHeartbeats 400000 in
theorem fits_idle (p : Addr) (w : World) :
    CallsD Tryz.prog 58 #[.pointer (some p)] .returning w fun e u' w' => e = .returned (.tuple #[]) ∧ u' = .returning ∧ w' = w := by
  have q1 := neqI_nil
  refine callsD_of_wpS Tryz.func58 rfl fun c₀ cs hu => ?_
  apply wpS_seq
  apply wpS_region
  simp [wpOpsS, go_sem, recoverD, hu, Tryz.ntmps58, Exit.thenS]
  refine wpS_of_wp ?_
  have hfin : ∀ a : Act, a.defers = [] → bodyPostS Tryz.prog Tryz.f58 c₀ cs (fun e u' w' => e = Ending.returned (Value.tuple #[]) ∧ u' = FrameMode.returning ∧ w' = w) .normal a (c₀ :: cs) w := by
    intro a ha
    cases c₀
    simp_all [bodyPostS, results, Tryz.results58]
  generalize bodyPostS Tryz.prog Tryz.f58 c₀ cs (fun e u' w' => e = Ending.returned (Value.tuple #[]) ∧ u' = FrameMode.returning ∧ w' = w) = Q at hfin ⊢
  have hfin2 := Lib.hid hfin
  clear hfin hu
  rw [show (#[Value.pointer (some p)] ++ ((Array.replicate 14 undef).setIfInBounds 3 Value.nilIface).setIfInBounds 0 Value.nilIface) = #[Value.pointer (some p), .nilIface, undef, undef, .nilIface, undef, undef, undef, undef, undef, undef, undef, undef, undef, undef] from rfl]
  go_wp2_with fail
  exact hfin2.out _ rfl

set_option maxHeartbeats 1000000 in
set_option maxRecDepth 100000 in
theorem fits_panicking (B : Nat) (w : World) (b0 : Value) (hb0 : w.cell? ⟨B, 0, none⟩ = some b0) (fb0 : w.frozen? ⟨B, 0, none⟩ = false) :
    CallsD Tryz.prog 58 #[.pointer (some ⟨B, 0, none⟩)] (.panicking ({ v := .iface 112 (.agg #[]), recovered := false } :: [])) w fun e u' w' =>
      e = .returned (.tuple #[]) ∧ u' = .panicking ({ v := .iface 112 (.agg #[]), recovered := true } :: []) ∧ w'.cell? ⟨B, 0, none⟩ = some (.bool false) ∧ Below B w w' := by
  have q1 := neqI_gr
  have q2 := assertI_gr
  refine callsD_of_wpS Tryz.func58 rfl fun c₀ cs hu => ?_
  apply wpS_seq
  apply wpS_region
  simp [wpOpsS, go_sem, recoverD, hu, Tryz.ntmps58, Exit.thenS]
  refine wpS_of_wp ?_
  have hfin : ∀ (a : Act) (w' : World), a.defers = [] → (w'.cell? ⟨B, 0, none⟩ = some (.bool false) ∧ Below B w w') → bodyPostS Tryz.prog Tryz.f58 c₀ cs (fun e u' w' => e = Ending.returned (Value.tuple #[]) ∧ u' = FrameMode.panicking [{ v := Value.iface 112 (.agg #[]), recovered := true }] ∧ w'.cell? ⟨B, 0, none⟩ = some (.bool false) ∧ Below B w w') .normal a ({ fn := c₀.fn, tmps := c₀.tmps, todo := c₀.todo, defers := c₀.defers, mode := FrameMode.panicking [{ v := Value.iface 112 (.agg #[]), recovered := true }], kind := c₀.kind, roundOf := c₀.roundOf } :: cs) w' := by
    intro a w' ha hw
    cases c₀
    simp_all [bodyPostS, results, Tryz.results58]
  generalize bodyPostS Tryz.prog Tryz.f58 c₀ cs (fun e u' w' => e = Ending.returned (Value.tuple #[]) ∧ u' = FrameMode.panicking [{ v := Value.iface 112 (.agg #[]), recovered := true }] ∧ w'.cell? ⟨B, 0, none⟩ = some (.bool false) ∧ Below B w w') = Q at hfin ⊢
  generalize ({ fn := c₀.fn, tmps := c₀.tmps, todo := c₀.todo, defers := c₀.defers, mode := FrameMode.panicking [{ v := Value.iface 112 (.agg #[]), recovered := true }], kind := c₀.kind, roundOf := c₀.roundOf } :: cs) = fr at hfin ⊢
  have hfin2 := Lib.hid hfin
  have lb := World.block_lt_of_cell? _ _ hb0
  clear hfin hu
  rw [show (#[Value.pointer (some ⟨B, 0, none⟩)] ++ ((Array.replicate 14 undef).setIfInBounds 3 (Value.iface 112 (.agg #[]))).setIfInBounds 0 (Value.iface 112 (.agg #[]))) = #[Value.pointer (some ⟨B, 0, none⟩), (Value.iface 112 (.agg #[])), undef, undef, (Value.iface 112 (.agg #[])), undef, undef, undef, undef, undef, undef, undef, undef, undef, undef] from rfl]
  go_wp2_with fail
  refine hfin2.out _ _ rfl ⟨?_, by go_grown⟩
  rw [World.cell?_alloc_past _ _ _ (by simpa using lb)]
  simp [World.cell?_setCell_same', hb0]

/-- A function that returns nothing, or throws Grown. -/
def RetOr (R : Bool → Prop) (w : World) (e : Ending) (w' : World) : Prop := ((e = .returned (.tuple #[]) ∧ R true) ∨ (GrownE e ∧ R false)) ∧ Gr w w'
def RetB (R : Bool → Prop) (w : World) (e : Ending) (w' : World) : Prop := ∃ b, e = .returned (.bool b) ∧ R b ∧ Gr w w'

set_option maxHeartbeats 4000000 in
set_option maxRecDepth 100000 in
theorem fits_calls (fid : FuncId) (cap : Array Value) (R : Bool → Prop) (w : World) (hq : ∀ W : World, (callFunc fid (#[] ++ cap)).run Tryz.prog W = .ok (.enter fid (#[] ++ cap)) W) (hcall : ∀ W, Gr w W → Calls Tryz.prog fid (#[] ++ cap) W (RetOr R W)) :
    Calls Tryz.prog 38 #[.func (.func fid) #[] cap] w (RetB R w) := by
  have hmf : ∀ (fn : Fn) (first cap : Array Value) (w : World), (Instr.makeFunc fn first cap).run Tryz.prog w = .ok (.func fn first cap) w := fun _ _ _ _ => rfl
  have Hcall := Lib.hid hcall
  clear hcall
  simp only [Array.empty_append] at hq Hcall
  generalize hQ : RetB R w = Q
  have HQ := Lib.hid hQ
  clear hQ
  go_enter_defers Tryz.func38, Tryz.ntmps38
  go_wp2_with fail
  have gA : Gr w (w.alloc (.cells #[.bool false] 4)) := by go_grown
  have hE := BlkT.new w 4 #[.bool false]
  generalize w.alloc (.cells #[.bool false] 4) = wA at *
  refine (Hcall.out _ gA).mono ?_
  rintro e w1 ⟨⟨rfl, hr⟩ | ⟨hE1, hr⟩, hg⟩
  · have hE1 := BlkT.gr hE hg
    have y0 := hE1.cell 0 (v := .bool false) rfl
    have g0 := hE1.open_ 0
    have g1 : Gr w w1 := gA.trans hg
    have Hr := Lib.hid hr
    clear hr hE hE1 hg
    go_wp2_with fail
    refine leaves_cons (f := 58) (args := #[.pointer (some ⟨w.heap.size, 0, none⟩)]) (by simp) (by simp [go_sem]) ?_
    refine (fits_idle _ _).mono ?_
    rintro e u' w'' ⟨rfl, rfl, rfl⟩
    show ∃ v, _ ∧ _
    refine ⟨.bool true, by simp (maxDischargeDepth := 9) [results, Tryz.results38, go_sem, World.cell?_setCell_same', y0], ?_⟩
    rw [← HQ.out]
    exact ⟨true, rfl, Hr.out, Below.trans g1 ((Kp.set (C := (· = w.heap.size)) rfl).below (fun b hb => by omega) g1.size)⟩
  · rw [GrownE] at hE1
    subst hE1
    have hE1 := BlkT.gr hE hg
    have y0 := hE1.cell 0 (v := .bool false) rfl
    have g0 := hE1.open_ 0
    have g1 : Gr w w1 := gA.trans hg
    have Hr := Lib.hid hr
    clear hr hE hE1 hg
    go_wp2_with fail
    refine leaves_cons (f := 58) (args := #[.pointer (some ⟨w.heap.size, 0, none⟩)]) (by simp) (by simp [go_sem]) ?_
    refine (fits_panicking w.heap.size w1 _ y0 g0).mono ?_
    rintro e u' w'' ⟨rfl, rfl, z0, hbel⟩
    show ∃ v, _ ∧ _
    refine ⟨.bool false, by simp (maxDischargeDepth := 9) [results, Tryz.results38, go_sem, z0], ?_⟩
    rw [← HQ.out]
    exact ⟨false, rfl, Hr.out, Below.trans g1 hbel⟩

/-! ### hornref.FitsPairs -/
/-- Is each of the pairs a pair of terms? -/
def allP (l : List Pr) : Bool := l.all fun y => y.a.erase.formed && y.b.erase.formed
/-- FitsPairs says yes. -/
def PairsFit (l : List Pr) (b : Bool) : Prop := if allP l = true then ∃ o, Rob varT (seePrs l) o ∧ (b = true → o ≠ .grown) else b = true

set_option maxHeartbeats 1000000 in
set_option maxRecDepth 100000 in
theorem fitsPairs1_calls (p : Option Addr) (c : Nat) (l : List Pr) (B : Nat) (w : World) (h : (Prs.mk p c l).In w) (hf : ∀ y ∈ l, y.a.erase.formed = true ∧ y.b.erase.formed = true) (hB : BlkT w B 46 #[.slice p l.length c]) :
    Calls Tryz.prog 39 #[.pointer (some ⟨B, 0, none⟩)] w (RetOr (fun b => ∃ o, Rob varT (seePrs l) o ∧ (b = true → o ≠ .grown)) w) := by
  have hcall := Lib.hid (runify_calls p c l w h hf)
  have c0 := hB.cell 0 (v := .slice p l.length c) rfl
  generalize hQ : RetOr (fun b => ∃ o, Rob varT (seePrs l) o ∧ (b = true → o ≠ .grown)) w = Q
  have HQ := Lib.hid hQ
  clear hQ
  go_enter Tryz.func39, Tryz.ntmps39
  go_wp2_with fail
  refine hcall.out.mono ?_
  rintro e w1 ⟨o, ho, hout, hg⟩
  cases o with
  | grown =>
    have hE : GrownE e := hout
    rw [GrownE] at hE
    subst hE
    refine ⟨rfl, ?_⟩
    rw [← HQ.out]
    exact ⟨.inr ⟨rfl, .grown, ho, fun h => nomatch h⟩, hg⟩
  | clash =>
    obtain rfl : e = .returned (.tuple #[.slice none 0 0, .bool false]) := hout
    have Ho := Lib.hid ho
    clear ho
    go_wp2_with fail
    go_end0
    rw [← HQ.out]
    exact ⟨.inl ⟨rfl, .clash, Ho.out, fun _ h => nomatch h⟩, hg⟩
  | done ρ =>
    obtain ⟨p1, c1, l1, rfl, -, -⟩ := hout
    have Ho := Lib.hid ho
    clear ho
    go_wp2_with fail
    go_end0
    rw [← HQ.out]
    exact ⟨.inl ⟨rfl, .done ρ, Ho.out, fun _ h => nomatch h⟩, hg⟩

set_option maxHeartbeats 1000000 in
set_option maxRecDepth 100000 in
theorem fitsPairs_calls (p : Option Addr) (c : Nat) (l : List Pr) (w : World) (h : (Prs.mk p c l).In w) :
    Calls Tryz.prog 14 #[.slice p l.length c] w (RetB (PairsFit l) w) := by
  have hmf : ∀ (fn : Fn) (first cap : Array Value) (w : World), (Instr.makeFunc fn first cap).run Tryz.prog w = .ok (.func fn first cap) w := fun _ _ _ _ => rfl
  have HP := Lib.hid h
  have hll := h.2.1.1
  simp only at hll
  have hR : Hid (∀ b w', PairsFit l b → Gr w w' → RetB (PairsFit l) w (.returned (.bool b)) w') := fun b w' h1 h2 => ⟨b, rfl, h1, h2⟩
  generalize RetB (PairsFit l) w = Q at hR ⊢
  have HR := hR
  clear h hR
  go_enter Tryz.func14, Tryz.ntmps14
  try simp only [List.append_eq, List.cons_append, List.nil_append]
  go_upto_region 1 with fail
  have hB := BlkT.new w 46 #[.slice p l.length c]
  have gA : Gr w (w.alloc (.cells #[.slice p l.length c] 46)) := by go_grown
  generalize w.alloc (.cells #[.slice p l.length c] 46) = wA at *
  have HB := Lib.hid hB
  clear hB
  go_wp2_with fail
  go_loopg [3] l.length (fun m i wr => ∃ k : Nat, k ≤ l.length ∧ m = l.length - k ∧ i = .int .i64 k ∧ Hid (∀ (j : Nat) (h : j < l.length), j < k → l[j].a.erase.formed = true ∧ l[j].b.erase.formed = true) ∧ Hid (Gr wA wr))
  case atStart => exact ⟨0, Nat.zero_le _, rfl, rfl, fun j _ h => absurd h (Nat.not_lt_zero j), Gr.rfl' _⟩
  case round =>
    obtain ⟨k, hk, rfl, rfl, hpre, hgr⟩ := hrel
    have gr : Gr w wr := gA.trans hgr.out
    have x0 := (HB.out.gr hgr.out).cell 0 (v := .slice p l.length c) rfl
    by_cases hlt : k < l.length
    · obtain ⟨b, o, rfl⟩ := HP.out.ptr (by omega)
      obtain ⟨⟨⟨c0, c1, c2, c3⟩, ⟨d0, d1, d2, d3⟩⟩, ⟨hia, hib⟩, hbl⟩ := (HP.out.mono gr).elem k hlt
      have Hia := Lib.hid hia
      have Hib := Lib.hid hib
      have Hbad : Hid ((l[k].a.erase.formed && l[k].b.erase.formed) = false → ∀ b, b = true → PairsFit l b) := fun hb b h => by
        have : allP l = false := by
          cases ha : allP l with
          | false => rfl
          | true =>
            have := List.all_eq_true.1 ha _ (List.getElem_mem hlt)
            rw [hb] at this
            cases this
        rw [PairsFit, this, if_neg (by decide)]
        exact h
      have Hok : Hid (l[k].a.erase.formed = true → l[k].b.erase.formed = true → ∀ (j : Nat) (h : j < l.length), j < k + 1 → l[j].a.erase.formed = true ∧ l[j].b.erase.formed = true) := fun h1 h2 j h hj => by
        rcases Nat.lt_or_ge j k with h3 | h3
        · exact hpre.out j h h3
        · obtain rfl : j = k := by omega
          exact ⟨h1, h2⟩
      clear hia hib
      generalize l[k] = y at *
      have hfa := fun w' (g : Gr wr w') => rformed_calls (t := y.a) (w := w') (Tm.In_below g Hia.out)
      have hfb := fun w' (g : Gr wr w') => rformed_calls (t := y.b) (w := w') (Tm.In_below g Hib.out)
      rw [show y.a.val = .agg #[.int .i64 y.a.k, .int .i64 y.a.n, .string y.a.s, .slice y.a.p y.a.l.length y.a.c] from rfl] at hfa
      rw [show y.b.val = .agg #[.int .i64 y.b.k, .int .i64 y.b.n, .string y.b.s, .slice y.b.p y.b.l.length y.b.c] from rfl] at hfb
      generalize y.a.erase.formed = fa at *
      generalize y.b.erase.formed = fb at *
      have Hfa := Lib.hid hfa
      have Hfb := Lib.hid hfb
      clear hfa hfb
      go_wp2_with fail
      refine (Hfa.out wr (Gr.rfl' _)).mono ?_
      rintro e w1 ⟨rfl, hg1⟩
      replace hg1 : Gr wr w1 := hg1
      have x1 := Gr.at hg1 x0
      have dd0 := Gr.at hg1 d0
      have dd1 := Gr.at hg1 d1
      have dd2 := Gr.at hg1 d2
      have dd3 := Gr.at hg1 d3
      clear x0 c0 c1 c2 c3 d0 d1 d2 d3
      cases fa with
      | false =>
        have Hb := Lib.hid (Hbad.out (by rfl) true rfl)
        go_wp2_with fail
        exact HR.out _ _ Hb.out (gr.trans hg1)
      | true =>
        go_wp2_with fail
        refine (Hfb.out w1 hg1).mono ?_
        rintro e w2 ⟨rfl, hg2⟩
        replace hg2 : Gr w1 w2 := hg2
        clear x1 dd0 dd1 dd2 dd3
        have g2 : Gr wA w2 := hgr.out.trans (hg1.trans hg2)
        cases fb with
        | false =>
          have Hb := Lib.hid (Hbad.out (by rfl) true rfl)
          go_wp2_with fail
          exact HR.out _ _ Hb.out (gA.trans g2)
        | true =>
          have Hn := Lib.hid (Hok.out (by trivial) (by trivial))
          go_wp2_with fail
          go_roundg (l.length - (k + 1))
          case measure => omega
          case rel => exact ⟨k + 1, by omega, rfl, by go_num, Hn, g2⟩
    · obtain rfl : k = l.length := by omega
      have hall : ∀ y ∈ l, y.a.erase.formed = true ∧ y.b.erase.formed = true := fun y hy => by
        obtain ⟨j, hj, rfl⟩ := List.getElem_of_mem hy
        exact hpre.out j hj hj
      have hap : allP l = true := List.all_eq_true.2 fun y hy => by rw [(hall y hy).1, (hall y hy).2]; rfl
      have Hall := Lib.hid hall
      have Hap := Lib.hid hap
      have Hfits := Lib.hid (fits_calls 39 #[.pointer (some ⟨w.heap.size, 0, none⟩)] (fun b => ∃ o, Rob varT (seePrs l) o ∧ (b = true → o ≠ .grown)) wr (fun W => by kernel_rfl) fun W hW => by
        simp only [Array.empty_append]
        exact fitsPairs1_calls p c l w.heap.size W (HP.out.mono (gr.trans hW)) Hall.out (HB.out.gr (hgr.out.trans hW)))
      clear hall hap
      go_wp2_with fail
      refine Hfits.out.mono ?_
      rintro e w1 ⟨b, rfl, hb, hg⟩
      have Hb : Hid (PairsFit l b) := by
        show PairsFit l b
        rw [PairsFit, if_pos Hap.out]
        exact hb
      clear hb x0
      go_wp2_with fail
      exact HR.out _ _ Hb.out (gr.trans hg)
end Go.Proofs.YtjdoflfdlhpbmaaGreat

namespace Go.Proofs.YtjdoflfdlhpbmaaGreat
open Go.RowKit Go.Maps Go.Lib

theorem SM.start {S : Nat → Prop} {w : World} (hS : ∀ b, S b → b < w.heap.size) : SM S w.heap.size ((w.alloc (.map #[] 0)).alloc (.cells #[.map (some w.heap.size), .slice none 0 0, .slice none 0 0] 121)) (w.heap.size + 1) w.heap.size (.slice none 0 0) (.slice none 0 0) (fun _ => none) [] [] where
  blk := by
    have := BlkT.new (w.alloc (.map #[] 0)) 121 #[.map (some w.heap.size), .slice none 0 0, .slice none 0 0]
    rw [World.size_alloc] at this
    exact this
  map := (TMap.made S w).gr (by go_grown)
  tro := World.ownsRow_nil _ _ _ 1
  mko := World.ownsRow_nil _ _ _ 1
  trn := List.nodup_nil
  tri n := ⟨(fun h => nomatch h), (fun h => absurd rfl h)⟩
  sepS b hb := ⟨by have := hS b hb; simp; omega, by have := hS b hb; omega, by have := hS b hb; omega, (fun h => nomatch h), (fun h => nomatch h)⟩
  nPM := by omega
  nt := ⟨(fun h => nomatch h), (fun h => nomatch h)⟩
  nm := ⟨(fun h => nomatch h), (fun h => nomatch h)⟩
  ntm b h := nomatch h
  bnd := by simp; omega

set_option maxHeartbeats 1000000 in
set_option maxRecDepth 100000 in
theorem storeNew_calls (w : World) :
    Calls Tryz.prog 41 #[] w (fun e w' => e = .returned (.pointer (some ⟨w.heap.size + 1, 0, none⟩)) ∧ w' = (w.alloc (.map #[] 0)).alloc (.cells #[.map (some w.heap.size), .slice none 0 0, .slice none 0 0] 121)) := by
  have hmm := @run_makeMap Tryz.prog
  go_enter Tryz.func41, Tryz.ntmps41
  try simp only [List.append_eq, List.cons_append, List.nil_append]
  go_wp2_with fail
  exact bodyPost_ret (v := .pointer (some ⟨w.heap.size + 1, 0, none⟩)) (by simp [results, Tryz.results41, go_sem]) rfl ⟨rfl, rfl⟩

/-- What Solve hands back. -/
def RetSolve (l : List Pr) (w : World) (e : Ending) (w' : World) : Prop :=
  Gr w w' ∧ ((allP l = false ∧ e = .returned (.tuple #[.slice none 0 0, .int .i64 2])) ∨
    (allP l = true ∧ ((e = .returned (.tuple #[.slice none 0 0, .int .i64 3]) ∧ ∀ θ, ¬ Unif θ (seePrs l)) ∨
      ∃ ρ p c s, e = .returned (.tuple #[.slice p s.length c, .int .i64 0]) ∧ (Bds.mk p c s).In w' ∧ ListOf ρ s ∧ Canon ρ ∧ Holds (seePrs l) ρ)))

/-- The list of a store. -/
theorem StoreOk.list {σ : Int → Option T} {ρ : Int → T} (ho : StoreOk σ ρ) {tr : List Int} (hn : tr.Nodup) (ht : ∀ n, n ∈ tr ↔ σ n ≠ none) {s : List Bd} (hs : s.map (fun y => (y.v, y.t.erase)) = (tr.mergeSort leI).map fun n => (n, ρ n)) : ListOf ρ s := by
  have hperm := List.mergeSort_perm tr leI
  have hv : s.map Bd.v = tr.mergeSort leI := by
    have := congrArg (List.map Prod.fst) hs
    simpa [List.map_map, Function.comp_def] using this
  have hmem : ∀ y ∈ s, y.v ∈ tr ∧ ρ y.v = y.t.erase := fun y hy => by
    have h1 : (y.v, y.t.erase) ∈ s.map (fun y => (y.v, y.t.erase)) := List.mem_map.2 ⟨y, hy, rfl⟩
    rw [hs] at h1
    obtain ⟨n, hn, he⟩ := List.mem_map.1 h1
    obtain ⟨e1, e2⟩ := Prod.mk.inj he
    rw [← e1, ← e2]
    exact ⟨hperm.mem_iff.1 hn, rfl⟩
  have hne : ∀ n, n ∈ tr → ρ n ≠ varT n := fun n hn h => (ht n).1 hn (ho.open_ h)
  have hr : ∀ n, n ∈ tr → (ρ n).formed = true ∧ 0 ≤ n ∧ n ≤ 1099511627776 := fun n hn => (ho.canon.form n).resolve_left (hne n hn)
  have htr : ∀ a b c : Int, leI a b = true → leI b c = true → leI a c = true := fun a b c h1 h2 => by simp only [leI, decide_eq_true_eq] at *; exact Int.le_trans h1 h2
  have hto : ∀ a b : Int, (leI a b || leI b a) = true := fun a b => by simp only [leI, Bool.or_eq_true, decide_eq_true_eq]; exact Int.le_total a b
  refine ⟨asc_of s (-1) (fun y hy => ?_) ?_ ?_, fun n t => ?_, fun y hy => ?_⟩
  · have := (hr _ (hmem y hy).1).2
    omega
  · have h1 := List.pairwise_mergeSort htr hto tr
    rw [← hv] at h1
    exact (List.pairwise_map.1 h1).imp fun h => by simpa [leI] using h
  · rw [hv]; exact hperm.nodup_iff.2 hn
  · constructor
    · rintro ⟨y, hy, rfl, rfl⟩
      have := hmem y hy
      exact ⟨congrArg some this.2, by rw [← this.2]; exact hne _ this.1⟩
    · rintro ⟨h1, h2⟩
      cases h1
      have hin : n ∈ tr := by
        rw [ht]
        intro hnone
        exact h2 (ho.free n hnone)
      have h3 : (n, ρ n) ∈ s.map (fun y => (y.v, y.t.erase)) := by
        rw [hs]
        exact List.mem_map.2 ⟨n, hperm.mem_iff.2 hin, rfl⟩
      obtain ⟨y, hy, he⟩ := List.mem_map.1 h3
      obtain ⟨e1, e2⟩ := Prod.mk.inj he
      exact ⟨y, hy, e1, e2⟩
  · have := hmem y hy
    rw [← this.2]
    exact hr _ this.1

theorem mem_take_lt {l : List Pr} {k : Nat} {q : T × T} (_ : k < l.length) (hq : q ∈ seePrs (l.take k)) : q ∈ seePrs l := by
  obtain ⟨y, hy, rfl⟩ := List.mem_map.1 hq
  exact List.mem_map.2 ⟨y, List.mem_of_mem_take hy, rfl⟩
theorem seePrs_take {l : List Pr} {k : Nat} (hk : k < l.length) : seePrs (l.take (k + 1)) = seePrs (l.take k) ++ [(l[k].a.erase, l[k].b.erase)] := by
  rw [List.take_succ_eq_append_getElem hk, seePrs, List.map_append]
  rfl
theorem allP_at {l : List Pr} (h : allP l = true) {k : Nat} (hk : k < l.length) : l[k].a.erase.formed = true ∧ l[k].b.erase.formed = true := by
  have := List.all_eq_true.1 h _ (List.getElem_mem hk)
  simpa using this
theorem allP_of {l : List Pr} (h : ∀ (j : Nat) (h : j < l.length), j < l.length → l[j].a.erase.formed = true ∧ l[j].b.erase.formed = true) : allP l = true := by
  refine List.all_eq_true.2 fun y hy => ?_
  obtain ⟨j, hj, rfl⟩ := List.getElem_of_mem hy
  have := h j hj hj
  simp [this.1, this.2]
theorem allP_not {l : List Pr} {k : Nat} (hk : k < l.length) (h : (l[k].a.erase.formed && l[k].b.erase.formed) = false) : allP l = false := by
  cases ha : allP l with
  | false => rfl
  | true =>
    have := allP_at ha hk
    rw [this.1, this.2] at h
    cases h

theorem out_step {w5 w6 : World} {v v' : Value} {lo : List Bd} {x : Bd} (h : ∀ y ∈ lo, y.t.In w5 ∧ y.t.On (fun b => v.ownBlock ≠ some b)) (hx : x.t.In w5 ∧ x.t.On (fun b => v.ownBlock ≠ some b)) (h3 : w5.grownBy w6 v.ownBlock) (h4 : v'.ownBlock = v.ownBlock ∨ v'.ownBlock = some w5.heap.size) :
    ∀ y ∈ lo ++ [x], y.t.In w6 ∧ y.t.On (fun b => v'.ownBlock ≠ some b) := by
  intro y hy
  have hy2 : y.t.In w5 ∧ y.t.On (fun b => v.ownBlock ≠ some b) := by
    rcases List.mem_append.1 hy with hy | hy
    · exact h y hy
    · rw [List.mem_singleton] at hy
      rw [hy]
      exact hx
  refine ⟨kp_in hy2.1 hy2.2 (fun b hb hc => hb hc) (Kp.of_grown (C := fun b => v.ownBlock = some b) h3 fun r hr => hr), (hy2.1.on.and hy2.2).mono fun b hb => ?_⟩
  rcases h4 with h4 | h4
  · rw [h4]; exact hb.2
  · rw [h4]; intro e; cases e; omega

theorem pair_blk (w : World) (y : Pr) (W : World) (h : w.alloc (.cells #[.int .i64 y.a.k, .int .i64 y.a.n, .string y.a.s, .slice y.a.p y.a.l.length y.a.c, .int .i64 y.b.k, .int .i64 y.b.n, .string y.b.s, .slice y.b.p y.b.l.length y.b.c] 45) = W) :
    (W.cell? ⟨w.heap.size, 0, none⟩ = some (.int .i64 y.a.k) ∧ W.cell? ⟨w.heap.size, 1, none⟩ = some (.int .i64 y.a.n) ∧ W.cell? ⟨w.heap.size, 2, none⟩ = some (.string y.a.s) ∧ W.cell? ⟨w.heap.size, 3, none⟩ = some (.slice y.a.p y.a.l.length y.a.c)) ∧
    (W.cell? ⟨w.heap.size, 4, none⟩ = some (.int .i64 y.b.k) ∧ W.cell? ⟨w.heap.size, 5, none⟩ = some (.int .i64 y.b.n) ∧ W.cell? ⟨w.heap.size, 6, none⟩ = some (.string y.b.s) ∧ W.cell? ⟨w.heap.size, 7, none⟩ = some (.slice y.b.p y.b.l.length y.b.c)) ∧ Gr w W := by
  subst h
  have h1 := BlkT.new w 45 #[.int .i64 y.a.k, .int .i64 y.a.n, .string y.a.s, .slice y.a.p y.a.l.length y.a.c, .int .i64 y.b.k, .int .i64 y.b.n, .string y.b.s, .slice y.b.p y.b.l.length y.b.c]
  exact ⟨⟨h1.cell 0 rfl, h1.cell 1 rfl, h1.cell 2 rfl, h1.cell 3 rfl⟩, ⟨h1.cell 4 rfl, h1.cell 5 rfl, h1.cell 6 rfl, h1.cell 7 rfl⟩, by go_grown⟩

set_option maxHeartbeats 8000000 in
set_option maxRecDepth 100000 in
theorem solve_calls (p : Option Addr) (c : Nat) (l : List Pr) (w : World) (h : (Prs.mk p c l).In w) :
    Calls Tryz.prog 15 #[.slice p l.length c] w (RetSolve l w) := by
  have HP := Lib.hid h
  have hll := h.2.1.1
  simp only at hll
  have hR : Hid (∀ e w', RetSolve l w e w' → RetSolve l w e w') := fun e w' h => h
  generalize hQe : RetSolve l w = Q at hR ⊢
  have HQ : Hid (∀ e w', RetSolve l w e w' → Q e w') := fun e w' h => by rw [← hQe]; exact h
  clear h hR hQe
  go_enter Tryz.func15, Tryz.ntmps15
  try simp only [List.append_eq, List.cons_append, List.nil_append]
  go_wp2_with fail
  go_loopg [14] l.length (fun m i wr => ∃ k : Nat, k ≤ l.length ∧ m = l.length - k ∧ i = .int .i64 k ∧ Hid (∀ (j : Nat) (h : j < l.length), j < k → l[j].a.erase.formed = true ∧ l[j].b.erase.formed = true) ∧ Gr w wr)
  case atStart => exact ⟨0, Nat.zero_le _, rfl, rfl, fun j _ h => absurd h (Nat.not_lt_zero j), Gr.rfl' _⟩
  case round =>
    obtain ⟨k, hk, rfl, rfl, hpre, gr⟩ := hrel
    by_cases hlt : k < l.length
    · obtain ⟨b, o, rfl⟩ := HP.out.ptr (by omega)
      obtain ⟨⟨⟨c0, c1, c2, c3⟩, ⟨d0, d1, d2, d3⟩⟩, ⟨hia, hib⟩, hbl⟩ := (HP.out.mono gr).elem k hlt
      have Hia := Lib.hid hia
      have Hib := Lib.hid hib
      have Hbad : Hid ((l[k].a.erase.formed && l[k].b.erase.formed) = false → ∀ w', Gr w w' → Q (.returned (.tuple #[.slice none 0 0, .int .i64 2])) w') := fun hb w' hg => HQ.out _ _ ⟨hg, .inl ⟨allP_not hlt hb, rfl⟩⟩
      have Hok : Hid ((l[k].a.erase.formed && l[k].b.erase.formed) = true → ∀ (j : Nat) (h : j < l.length), j < k + 1 → l[j].a.erase.formed = true ∧ l[j].b.erase.formed = true) := fun hb j h hj => by
        rcases Nat.lt_or_ge j k with h3 | h3
        · exact hpre.out j h h3
        · obtain rfl : j = k := by omega
          simpa using hb
      clear hia hib
      generalize l[k] = y at *
      have hall : ∀ (w0 w' : World), Gr wr w0 → Gr (w0.alloc (.cells #[.int .i64 y.a.k, .int .i64 y.a.n, .string y.a.s, .slice y.a.p y.a.l.length y.a.c, .int .i64 y.b.k, .int .i64 y.b.n, .string y.b.s, .slice y.b.p y.b.l.length y.b.c] 24)) w' → Calls Tryz.prog 18 #[.slice (some ⟨w0.heap.size, 0, none⟩) 2 2] w' (Ret (.bool (y.a.erase.formed && y.b.erase.formed)) w') := fun w0 w' h0 h1 => by
        have h2 := all_calls (two_new (Tm.In_below h0 Hia.out) (Tm.In_below h0 Hib.out) h1)
        rw [show T.formedL (Tm.eraseL [y.a, y.b]) = (y.a.erase.formed && y.b.erase.formed) by simp [Tm.eraseL, T.formedL]] at h2
        exact h2
      have Hall := Lib.hid hall
      generalize hff : (y.a.erase.formed && y.b.erase.formed) = ff at *
      clear hff hall
      go_upto_region 4 with fail
      obtain ⟨⟨x0, x1, x2, x3⟩, ⟨y0, y1, y2, y3⟩, gP⟩ := pair_blk wr y _ rfl
      generalize (wr.alloc (.cells #[.int .i64 y.a.k, .int .i64 y.a.n, .string y.a.s, .slice y.a.p y.a.l.length y.a.c, .int .i64 y.b.k, .int .i64 y.b.n, .string y.b.s, .slice y.b.p y.b.l.length y.b.c] 45)) = wP at *
      clear c0 c1 c2 c3 d0 d1 d2 d3
      go_wp2_with fail
      refine (Hall.out _ _ gP (Gr.rfl' _)).mono ?_
      rintro e w2 ⟨rfl, hg2⟩
      have g2 : Gr wr w2 := gP.trans (Gr.trans (show Gr wP _ by go_grown) hg2)
      clear x0 x1 x2 x3 y0 y1 y2 y3 hg2
      cases ff with
      | false =>
        have Hb := Lib.hid (Hbad.out rfl w2 (gr.trans g2))
        go_wp2_with fail
        exact Hb.out
      | true =>
        have Hn := Lib.hid (Hok.out rfl)
        go_wp2_with fail
        go_roundg (l.length - (k + 1))
        case measure => omega
        case rel => exact ⟨k + 1, by omega, rfl, by go_num, Hn, gr.trans g2⟩
    · obtain rfl : k = l.length := by omega
      have HA : Hid (allP l = true) := allP_of fun j h hj => hpre.out j h hj
      clear hpre hlt hk
      go_wp2_with fail
      refine (storeNew_calls wr).mono ?_
      rintro e w1 ⟨rfl, hw1⟩
      have hst := SM.start (S := fun b => b < w.heap.size) (w := wr) fun b hb => Nat.lt_of_lt_of_le hb gr.size
      rw [← hw1] at hst
      have g1 : Gr w w1 := gr.trans (by rw [hw1]; go_grown)
      have hP0 : w.heap.size ≤ wr.heap.size + 1 := by have := gr.size; omega
      have hM0 : w.heap.size ≤ wr.heap.size := gr.size
      have hB0 : w.heap.size ≤ wr.heap.size := gr.size
      have Hst := Lib.hid hst
      clear hst hw1 gr
      generalize wr.heap.size + 1 = P at *
      generalize hBe : wr.heap.size = B at *
      have Hst2 : Hid (SM (fun b => b < w.heap.size) B w1 P B (.slice none 0 0) (.slice none 0 0) (fun _ => none) [] []) := Hst.out
      clear Hst hBe
      go_wp2_with fail
      go_loopg [29] l.length (fun m i wi => ∃ (k : Nat) (σ : Int → Option T) (ρ : Int → T) (tr mk : List Int) (vt vm : Value), k ≤ l.length ∧ m = l.length - k ∧ i = .int .i64 k ∧ Hid (SM (fun b => b < w.heap.size) B wi P B vt vm σ tr mk) ∧ Hid (StoreOk σ ρ) ∧ Hid (Holds (seePrs (l.take k)) ρ) ∧ mk.length = k ∧ Hid (∀ b, vt.ownBlock = some b ∨ vm.ownBlock = some b → w.heap.size ≤ b) ∧ Gr w wi)
      case atStart => exact ⟨0, _, _, _, _, _, _, Nat.zero_le _, rfl, rfl, Hst2, StoreOk.empty, holds_nil, rfl, (fun b hb => hb.elim (fun h => nomatch h) fun h => nomatch h), g1⟩
      case round =>
        clear Hst2 g1
        obtain ⟨k, σ, ρ, tr, mk, vt, vm, hk, rfl, rfl, hsm, hok, hho, hmk, hown, gr⟩ := hrel
        by_cases hlt : k < l.length
        · obtain ⟨b, o, rfl⟩ := HP.out.ptr (by omega)
          obtain ⟨⟨⟨c0, c1, c2, c3⟩, ⟨d0, d1, d2, d3⟩⟩, -, hbl⟩ := (HP.out.mono gr).elem k hlt
          have hin0 := HP.out.2.2.2 l[k] (List.getElem_mem hlt)
          have hfm := allP_at HA.out hlt
          have Hno : Hid ((∀ θ, Through θ ρ → T.map θ l[k].a.erase ≠ T.map θ l[k].b.erase) → ∀ w', Gr w w' → Q (.returned (.tuple #[.slice none 0 0, .int .i64 3])) w') := fun hn w' hg => HQ.out _ _ ⟨hg, .inr ⟨HA.out, .inl ⟨rfl, fun θ hu => hn θ (hho.out.2 θ fun q hq => hu q (mem_take_lt hlt hq)) (hu (l[k].a.erase, l[k].b.erase) (List.mem_map.2 ⟨l[k], List.getElem_mem hlt, rfl⟩))⟩⟩⟩
          have Hyes : Hid (∀ ρ', Through ρ' ρ → T.map ρ' l[k].a.erase = T.map ρ' l[k].b.erase → (∀ θ, Through θ ρ → T.map θ l[k].a.erase = T.map θ l[k].b.erase → Through θ ρ') → Holds (seePrs (l.take (k + 1))) ρ') := fun ρ' h1 h2 h3 => by
            rw [seePrs_take hlt]
            exact hho.out.snoc h1 h2 h3
          generalize l[k] = y at *
          have Hjo : Hid (∀ w', Gr wr w' → Calls Tryz.prog 42 #[.pointer (some ⟨P, 0, none⟩), .agg #[.int .i64 y.a.k, .int .i64 y.a.n, .string y.a.s, .slice y.a.p y.a.l.length y.a.c], .agg #[.int .i64 y.b.k, .int .i64 y.b.n, .string y.b.s, .slice y.b.p y.b.l.length y.b.c]] w' (RetJN (fun b => b < w.heap.size) B P B vt vm σ tr mk ρ y.a.erase y.b.erase w')) := fun w' g => Join_calls (hsm.out.gr g) hok.out y.a y.b (Tm.In_below (gr.trans g) hin0.1) (Tm.In_below (gr.trans g) hin0.2) hin0.1.on hin0.2.on hfm.1 hfm.2 (by omega)
          clear hin0 hfm
          go_upto_region 11 with fail
          obtain ⟨⟨x0, x1, x2, x3⟩, ⟨y0, y1, y2, y3⟩, gP⟩ := pair_blk wr y _ rfl
          generalize (wr.alloc (.cells #[.int .i64 y.a.k, .int .i64 y.a.n, .string y.a.s, .slice y.a.p y.a.l.length y.a.c, .int .i64 y.b.k, .int .i64 y.b.n, .string y.b.s, .slice y.b.p y.b.l.length y.b.c] 45)) = wP at *
          clear c0 c1 c2 c3 d0 d1 d2 d3
          go_wp2_with fail
          refine (Hjo.out _ gP).mono ?_
          rintro e w2 ⟨r, vt', vm', σ', ρ', tr', mk', rfl, hj⟩
          have hmut : ∀ b, MutA P B vt vm b → w.heap.size ≤ b := fun b hb => by
            rcases hb with (rfl | rfl | hb) | hb
            · exact hP0
            · exact hM0
            · exact hown.out b (.inl hb)
            · exact hown.out b (.inr hb)
          have g2 : Gr w w2 := Below.trans (gr.trans gP) (hj.kp.below hmut (gr.trans gP).size)
          have Ho2 : Hid (∀ b, vt'.ownBlock = some b ∨ vm'.ownBlock = some b → w.heap.size ≤ b) := fun b hb => by
            have hs := (gr.trans gP).size
            by_cases hlt : b < wP.heap.size
            · rcases hb with hb | hb
              · exact hown.out b (.inl (hj.lt b hb hlt))
              · exact hown.out b (.inr (hj.lm b hb hlt))
            · omega
          have Hj := Lib.hid hj
          clear x0 x1 x2 x3 y0 y1 y2 y3 hj hmut
          cases r with
          | false =>
            have Hb := Lib.hid (Hno.out (Hj.out.no rfl).2.2.2.2 w2 g2)
            go_wp2_with fail
            exact Hb.out
          | true =>
            have Hn := Lib.hid (Hyes.out ρ' (Hj.out.yes rfl).1 (Hj.out.yes rfl).2.1 (Hj.out.yes rfl).2.2.1)
            have hmk2 : mk'.length = k + 1 := by rw [(Hj.out.yes rfl).2.2.2.1]; simp [hmk]
            go_wp2_with fail
            go_roundg (l.length - (k + 1))
            case measure => omega
            case rel => exact ⟨k + 1, _, _, _, _, _, _, by omega, rfl, by go_num, Hj.out.sm, Hj.out.ok, Hn, hmk2, Ho2, g2⟩
        · obtain rfl : k = l.length := by omega
          have Hho : Hid (Holds (seePrs l) ρ) := by
            have := hho.out
            rwa [List.take_length] at this
          have Hend : Hid (∀ (v : Value) (lo : List Bd) (B3 : Nat) w', BuiltBds w' B3 v lo → lo.map (fun y => (y.v, y.t.erase)) = (tr.mergeSort leI).map (fun n => (n, ρ n)) → (∀ y ∈ lo, y.t.In w') → Gr w w' → Q (.returned (.tuple #[v, .int .i64 0])) w') := fun v lo B3 w' hb he hi hg => by
            have hL := hok.out.list hsm.out.trn hsm.out.tri he
            have hlen : lo.length = tr.length := by
              have := congrArg List.length he
              rwa [List.length_map, List.length_map, List.length_mergeSort] at this
            have hl := hsm.out.len
            obtain ⟨p', c', rfl, hB⟩ := hb.bds (by omega) fun y hy => ⟨hi y hy, by have := (hL.2.2 y hy).2; constructor <;> omega⟩
            exact HQ.out _ _ ⟨hg, .inr ⟨HA.out, .inr ⟨ρ, p', c', lo, rfl, hB, hL, hok.out.canon, Hho.out⟩⟩⟩
          have hbound := fun w' (g : Gr wr w') => bound_calls (hsm.out.gr g)
          have hts : ∀ n ∈ tr.mergeSort leI, 0 ≤ n ∧ n ≤ 1099511627776 := fun n hn => hsm.out.range n ((List.mergeSort_perm tr leI).mem_iff.1 hn)
          have htl : (tr.mergeSort leI).length ≤ 1099511627777 := by rw [List.length_mergeSort]; exact hsm.out.len
          generalize tr.mergeSort leI = ts at *
          have Hbound := Lib.hid hbound
          have Hts := Lib.hid hts
          clear hbound hts hk hlt hmk hown hho
          go_wp2_with fail
          refine (Hbound.out _ (by go_grown)).mono ?_
          rintro e w3 ⟨v3, rfl, hints, g3⟩
          have gr3 : Gr wr w3 := Gr.trans (show Gr wr _ by go_grown) g3
          obtain ⟨p3, c3, rfl⟩ := hints.form
          have HI : Hid (IntSl w3 p3 c3 ts) := (hints.sl fun n hn => by have := Hts.out n hn; constructor <;> omega).2
          have HS3 := Lib.hid (hsm.out.gr gr3)
          have gw3 : Gr w w3 := gr.trans gr3
          have hsw3 : w.heap.size ≤ w3.heap.size := gw3.size
          clear hints g3 gr3 hsm gr Hbound
          go_wp2_with fail
          go_loopg [9, 44] ts.length (fun m v0 i wi => ∃ (j : Nat) (lo : List Bd) (v : Value), v = v0 ∧ j ≤ ts.length ∧ m = ts.length - j ∧ i = .int .i64 j ∧ BuiltBds wi w3.heap.size v lo ∧ Hid (lo.map (fun y => (y.v, y.t.erase)) = (ts.take j).map fun n => (n, ρ n)) ∧ Hid (∀ y ∈ lo, y.t.In wi ∧ y.t.On (fun b => v.ownBlock ≠ some b)) ∧ Gr w3 wi)
          case atStart => exact ⟨0, [], _, rfl, Nat.zero_le _, rfl, rfl, World.ownsRow_nil _ _ _ 5, rfl, (fun y hy => nomatch hy), Gr.rfl' _⟩
          case round =>
            obtain ⟨j, lo, v, rfl, hj, rfl, rfl, hrow, hmap, hterms, gr⟩ := hrel
            by_cases hlt : j < ts.length
            · obtain ⟨b, o, rfl, hbl, hcell⟩ := (HI.out.mono gr).ptr (by omega)
              have c0 := hcell j ts[j] (List.getElem?_eq_getElem hlt)
              have hn := Hts.out ts[j] (List.getElem_mem hlt)
              have hl0 : lo.length = j := by
                have := congrArg List.length hmap.out
                rw [List.length_map, List.length_map, List.length_take] at this
                omega
              have Htake : Hid (ts.take (j + 1) = ts.take j ++ [ts[j]]) := List.take_succ_eq_append_getElem hlt
              clear hcell
              generalize ts[j] = n at *
              have hfull : ∀ w', Gr wr w' → Calls Tryz.prog 44 #[.pointer (some ⟨P, 0, none⟩), .agg #[.int .i64 1, .int .i64 n, .string ⟨#[]⟩, .slice none 0 0]] w' (RetTm (fun b => b < w.heap.size ∨ w'.heap.size ≤ b) (ρ n) w') := fun w' g => by
                have h1 := full_calls (HS3.out.gr (gr.trans g)) hok.out (varTm n) (varTm_in ⟨by omega, by omega⟩ _) (varTm_on n) (by rw [varTm_erase]; exact varT_formed hn)
                rw [varTm_erase, T.map_var] at h1
                exact h1
              have Hfull := Lib.hid hfull
              have Hrow := Lib.hid hrow
              have hsz : w3.heap.size ≤ wr.heap.size := gr.size
              have hlen : (lo.length + 1) * 64 ≤ 140737488351232 := by omega
              clear hfull hrow hn
              go_wp2_with fail
              refine (vV_calls n _).mono ?_
              rintro e w4 ⟨rfl, hg4⟩
              replace hg4 : Gr wr w4 := hg4
              clear c0
              go_wp2_with fail
              refine (Hfull.out w4 hg4).mono ?_
              rintro e w5 ⟨u, iu, eu, rfl, hg5, ou⟩
              have g5 : Gr wr w5 := hg4.trans hg5
              have Huv := Lib.hid (show u.val = .agg #[.int .i64 u.k, .int .i64 u.n, .string u.s, .slice u.p u.l.length u.c] from rfl)
              have hs5 : wr.heap.size ≤ w5.heap.size := g5.size
              have Hold : Hid (∀ y ∈ lo ++ [(⟨n, u⟩ : Bd)], y.t.In w5 ∧ y.t.On (fun b => v.ownBlock ≠ some b)) := fun y hy => by
                rcases List.mem_append.1 hy with hy | hy
                · exact ⟨Tm.In_below g5 (hterms.out y hy).1, (hterms.out y hy).2⟩
                · rw [List.mem_singleton] at hy
                  subst hy
                  refine ⟨iu, ou.mono fun b hb e => ?_⟩
                  have h1 := Hrow.out.ge e
                  have h2 := own_lt Hrow.out e
                  have h3 := hg4.size
                  rcases hb with hb | hb <;> omega
              have Hmap : Hid ((lo ++ [(⟨n, u⟩ : Bd)]).map (fun y => (y.v, y.t.erase)) = (ts.take (j + 1)).map fun n => (n, ρ n)) := by
                show _ = _
                rw [Htake.out, List.map_append, List.map_append, hmap.out]
                simp [eu]
              rw [Huv.out]
              clear iu ou eu hg4 hg5 hterms hmap Htake
              go_wp2_with (first
                | (refine wpList_append_bd rfl _ _ rfl rfl w3.heap.size _ lo ⟨n, u⟩ w5.heap.size 1 (by rfl) (by rfl) (Hrow.out.gr (g5.trans (by go_grown))) (by simp; omega) hlen (BlkT.new w5 _ _) ?_
                   intro v' w6 h2 h3 h4)
                | fail)
              have g6 : Gr w3 w6 := Below.trans (gr.trans g5) (Below.trans (Below.mono (show Gr w5 _ by go_grown) (Nat.le_trans hsz hs5)) (grownBy_below h3 (by simp; omega) fun b hb => Hrow.out.ge hb))
              go_roundg (ts.length - (j + 1))
              case measure => omega
              case rel => exact ⟨j + 1, _, _, rfl, by omega, rfl, by go_num, h2, Hmap, out_step (fun y hy => ⟨Tm.In_below (by go_grown) (Hold.out y (List.mem_append_left _ hy)).1, (Hold.out y (List.mem_append_left _ hy)).2⟩) ⟨Tm.In_below (by go_grown) (Hold.out _ (List.mem_append_right _ (List.mem_singleton.2 rfl))).1, (Hold.out _ (List.mem_append_right _ (List.mem_singleton.2 rfl))).2⟩ h3 h4, g6⟩
            · obtain rfl : j = ts.length := by omega
              have Hfin := Lib.hid (Hend.out v lo _ wr hrow (by rw [hmap.out, List.take_length]) (fun y hy => (hterms.out y hy).1) (gw3.trans gr))
              clear hrow hmap hterms
              go_wp2_with fail
              exact Hfin.out
end Go.Proofs.YtjdoflfdlhpbmaaGreat
