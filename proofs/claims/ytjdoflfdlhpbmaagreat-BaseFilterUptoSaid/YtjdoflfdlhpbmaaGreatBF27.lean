/-
  hornref.Unify: the walk.
-/
import Derived.Test.YtjdoflfdlhpbmaaGreatBF25
import Derived.Test.YtjdoflfdlhpbmaaGreatBF23
import Derived.Test.YtjdoflfdlhpbmaaGreatBF26
import Derived.Deep.CutRange
namespace Go.Proofs.YtjdoflfdlhpbmaaGreat
open Go.RowKit Go.Maps Go.Lib

/-- What is handed back where the road ends so. -/
def OutOk (o : RobOut) (e : Ending) (w' : World) : Prop :=
  match o with
  | .grown => GrownE e
  | .clash => e = .returned (.tuple #[.slice none 0 0, .bool false])
  | .done ρ => ∃ p c l, e = .returned (.tuple #[.slice p l.length c, .bool true]) ∧ (Bds.mk p c l).In w' ∧ ListOf ρ l
/-- The same; the terms that are handed back lie on such blocks. -/
def OutOkO (S : Nat → Prop) (o : RobOut) (e : Ending) (w' : World) : Prop :=
  match o with
  | .grown => GrownE e
  | .clash => e = .returned (.tuple #[.slice none 0 0, .bool false])
  | .done ρ => ∃ p c l, e = .returned (.tuple #[.slice p l.length c, .bool true]) ∧ (Bds.mk p c l).InO S w' ∧ ListOf ρ l
def RetUnifyO (S : Nat → Prop) (E : List (T × T)) (w : World) (e : Ending) (w' : World) : Prop := ∃ o, Rob varT E o ∧ OutOkO S o e w' ∧ Gr w w'
def RetUnify (E : List (T × T)) (w : World) (e : Ending) (w' : World) : Prop := ∃ o, Rob varT E o ∧ OutOk o e w' ∧ Gr w w'

/-- A new block for a term. -/
def zblk (B0 : Nat) : VP := fun v w => ∃ B, v = .pointer (some ⟨B, 0, none⟩) ∧ B0 ≤ B ∧ BlkZ w B
theorem zblk_stable {B0 : Nat} : ∀ v w w', zblk B0 v w → Gr w w' → zblk B0 v w' := fun _ _ _ ⟨B, h1, h2, h3⟩ hg => ⟨B, h1, h2, Blk4.gr h3 hg⟩
/-- What stands behind the two stores. -/
theorem two_terms {w : World} {x y : Tm} {B6 B7 : Nat} (hx : x.In w) (hy : y.In w) (fx : x.erase.formed = true) (fy : y.erase.formed = true) (h6 : BlkZ w B6) (h7 : BlkZ w B7) (hne : B6 ≠ B7) (W : World)
    (hW : ((((((((w.setCell ⟨B6, 0, none⟩ (.int .i64 x.k)).setCell ⟨B6, 1, none⟩ (.int .i64 x.n)).setCell ⟨B6, 2, none⟩ (.string x.s)).setCell ⟨B6, 3, none⟩ (.slice x.p x.l.length x.c)).setCell ⟨B7, 0, none⟩ (.int .i64 y.k)).setCell ⟨B7, 1, none⟩ (.int .i64 y.n)).setCell ⟨B7, 2, none⟩ (.string y.s)).setCell ⟨B7, 3, none⟩ (.slice y.p y.l.length y.c)) = W) :
    x.In W ∧ y.In W ∧ BlkTm W B6 x ∧ BlkTm W B7 y ∧ Kp (fun b => b = B6 ∨ b = B7) w W := by
  subst hW
  have k1 : Kp (fun b => b = B6 ∨ b = B7) w _ := Kp.sets (C := fun b => b = B6 ∨ b = B7) (.inl rfl) (.int .i64 x.k) (.int .i64 x.n) (.string x.s) (.slice x.p x.l.length x.c)
  have k2 := fun w' => Kp.sets (C := (· = B7)) (w := w') (b := B7) rfl (.int .i64 y.k) (.int .i64 y.n) (.string y.s) (.slice y.p y.l.length y.c)
  have k12 := k1.trans ((k2 _).mono fun b hb => .inr hb)
  refine ⟨?_, ?_, ?_, ?_, k12⟩
  · exact kp_in hx ((on_not_zero h6 x hx fx).and (on_not_zero h7 x hx fx)) (fun b hb hc => hc.elim hb.1 hb.2) k12
  · exact kp_in hy ((on_not_zero h6 y hy fy).and (on_not_zero h7 y hy fy)) (fun b hb hc => hc.elim hb.1 hb.2) k12
  · exact Blk4.kp (C := (· = B7)) (Blk4.sets h6 (.int .i64 x.k) (.int .i64 x.n) (.string x.s) (.slice x.p x.l.length x.c)) (k2 _) hne
  · have h7' := Blk4.kp (C := (· = B6)) h7 (Kp.sets (C := (· = B6)) (b := B6) rfl (.int .i64 x.k) (.int .i64 x.n) (.string x.s) (.slice x.p x.l.length x.c)) (fun e => hne e.symm)
    exact Blk4.sets h7' _ _ _ _

def oneSl (t : Tm) : VP := fun v w => ∃ M, v = .slice (some ⟨M, 0, none⟩) 1 1 ∧ Tm.Sl w (some ⟨M, 0, none⟩) 1 [t]
theorem oneSl_stable {t : Tm} : ∀ v w w', oneSl t v w → Gr w w' → oneSl t v w' := fun _ _ _ ⟨M, h1, h2⟩ hg => ⟨M, h1, h2.mono hg⟩
def intsV (V : List Int) : VP := fun v w => ∃ p c, v = .slice p V.length c ∧ IntSl w p c V
theorem intsV_stable {V : List Int} : ∀ v w w', intsV V v w → Gr w w' → intsV V v w' := fun _ _ _ ⟨p, c, h1, h2⟩ hg => ⟨p, c, h1, h2.mono hg⟩
theorem one_bd {w W : World} {x : Bd} (hv : In64 x.v) (ht : x.t.In w) (hg : Gr (w.alloc (.cells (bdCells x) 96)) W) : (Bds.mk (some ⟨w.heap.size, 0, none⟩) 1 [x]).In W := by
  have hb := BlkT.gr (BlkT.new w 96 (bdCells x)) hg
  refine ⟨Nat.le_refl _, ⟨by simp, by simp⟩, .inr ⟨w.heap.size, 0, rfl, fun i y hy => ?_⟩, fun y hy => ?_⟩
  · match i, hy with
    | 0, hy => cases hy; exact ⟨hb.cell 0 rfl, hb.cell 1 rfl, hb.cell 2 rfl, hb.cell 3 rfl, hb.cell 4 rfl⟩
    | i + 1, hy => simp at hy
  · rw [List.mem_singleton] at hy
    subst hy
    exact ⟨Tm.In_below (Gr.trans (show Gr w _ by go_grown) hg) ht, hv⟩
theorem not_fat_list {ρ : Int → T} {l : List Bd} (h : ListOf ρ l) (hn : ∀ (j : Nat) (h : j < l.length), ¬ Fat l[j].t.erase) : ¬ ∃ n, Fat (ρ n) := by
  rintro ⟨n, hf⟩
  by_cases hv : ρ n = varT n
  · rw [hv, Fat, varT, T.sz, T.szL] at hf
    omega
  · obtain ⟨y, hy, _, he⟩ := (h.2.1 n (ρ n)).2 ⟨rfl, hv⟩
    obtain ⟨j, hj, rfl⟩ := List.getElem_of_mem hy
    rw [← he] at hf
    exact hn j hj hf
theorem two_stores {w : World} (x y : Tm) {B6 B7 : Nat} {u0 u1 u2 u3 v0 v1 v2 v3 : Value} (h6 : Blk4 w B6 u0 u1 u2 u3) (h7 : Blk4 w B7 v0 v1 v2 v3) (hne : B6 ≠ B7) (W : World)
    (hW : ((((((((w.setCell ⟨B6, 0, none⟩ (.int .i64 x.k)).setCell ⟨B6, 1, none⟩ (.int .i64 x.n)).setCell ⟨B6, 2, none⟩ (.string x.s)).setCell ⟨B6, 3, none⟩ (.slice x.p x.l.length x.c)).setCell ⟨B7, 0, none⟩ (.int .i64 y.k)).setCell ⟨B7, 1, none⟩ (.int .i64 y.n)).setCell ⟨B7, 2, none⟩ (.string y.s)).setCell ⟨B7, 3, none⟩ (.slice y.p y.l.length y.c)) = W) :
    BlkTm W B6 x ∧ BlkTm W B7 y ∧ Kp (fun b => b = B6 ∨ b = B7) w W := by
  subst hW
  have k1 : Kp (fun b => b = B6 ∨ b = B7) w _ := Kp.sets (C := fun b => b = B6 ∨ b = B7) (.inl rfl) (.int .i64 x.k) (.int .i64 x.n) (.string x.s) (.slice x.p x.l.length x.c)
  have k2 := fun w' => Kp.sets (C := (· = B7)) (w := w') (b := B7) rfl (.int .i64 y.k) (.int .i64 y.n) (.string y.s) (.slice y.p y.l.length y.c)
  refine ⟨?_, ?_, k1.trans ((k2 _).mono fun b hb => .inr hb)⟩
  · exact Blk4.kp (C := (· = B7)) (Blk4.sets h6 (.int .i64 x.k) (.int .i64 x.n) (.string x.s) (.slice x.p x.l.length x.c)) (k2 _) hne
  · exact Blk4.sets (Blk4.kp (C := (· = B6)) h7 (Kp.sets (C := (· = B6)) (b := B6) rfl (.int .i64 x.k) (.int .i64 x.n) (.string x.s) (.slice x.p x.l.length x.c)) (fun e => hne e.symm)) _ _ _ _

set_option maxHeartbeats 4000000 in
set_option maxRecDepth 100000 in
theorem runifyO_calls (S : Nat → Prop) (p : Option Addr) (c : Nat) (l : List Pr) (w : World) (h : (Prs.mk p c l).In w) (hf : ∀ y ∈ l, y.a.erase.formed = true ∧ y.b.erase.formed = true) (hn : ∀ b, w.heap.size ≤ b → S b) (ho : ∀ y ∈ l, y.a.On S ∧ y.b.On S) :
    Calls Tryz.prog 40 #[.slice p l.length c] w (RetUnifyO S (seePrs l) w) := by
  have Hnw := Lib.hid hn
  have Ho := Lib.hid ho
  have HP := Lib.hid h
  have Hf := Lib.hid hf
  have hll := h.2.1.1
  simp only at hll
  have hQ0 : Hid (∀ o e w', Rob varT (seePrs l) o → OutOkO S o e w' → Gr w w' → RetUnifyO S (seePrs l) w e w') := fun o e w' h1 h2 h3 => ⟨o, h1, h2, h3⟩
  generalize hE : seePrs l = E at hQ0 ⊢
  have HE := Lib.hid hE
  generalize RetUnifyO S E w = Q at hQ0 ⊢
  have HQ := hQ0
  clear h hf hn ho hQ0 hE
  go_enter Tryz.func40, Tryz.ntmps40
  try simp only [List.append_eq, List.cons_append, List.nil_append]
  go_wp2_with fail
  go_loopg [4, 5] l.length (fun m v i wr => ∃ (k : Nat) (p' : Option Addr) (c' : Nat) (s : List Bd) (ρ : Int → T), k ≤ l.length ∧ m = l.length - k ∧ i = .int .i64 k ∧ v = .slice p' s.length c' ∧ Hid ((Bds.mk p' c' s).InO S wr) ∧ Hid (ListOf ρ s) ∧ Hid (Canon ρ) ∧ Hid (∀ o, Rob ρ (E.drop k) o → Rob varT E o) ∧ Gr w wr)
  case atStart => exact ⟨0, none, 0, [], varT, Nat.zero_le _, rfl, rfl, rfl, ⟨⟨Nat.le_refl _, ⟨by simp, by simp⟩, .inl rfl, (fun y hy => nomatch hy)⟩, (fun y hy => nomatch hy)⟩, ListOf.empty, canon_var, fun o ho => ho, Gr.rfl' _⟩
  case round =>
    obtain ⟨k, p', c', s, ρ, hk, rfl, rfl, rfl, hin, hls, hca, hco, gr⟩ := hrel
    by_cases hlt : k < l.length
    · obtain ⟨b, o, rfl⟩ := HP.out.ptr (by omega)
      have Hfy := Lib.hid (Hf.out _ (List.getElem_mem hlt))
      have Hoy := Lib.hid (Ho.out _ (List.getElem_mem hlt))
      have Hdr : Hid (E.drop k = (l[k].a.erase, l[k].b.erase) :: E.drop (k + 1)) := by
        show _ = _
        rw [← HE.out, List.drop_eq_getElem_cons (by rw [seePrs, List.length_map]; exact hlt)]
        simp [seePrs]
      have Hy := Lib.hid (fun w' (g : Gr w w') => (HP.out.mono g).elem k hlt)
      generalize l[k] = y at *
      go_wp2_with fail
      go_loopg [4] (freeV ρ) (fun m v wi => ∃ (p' : Option Addr) (c' : Nat) (s : List Bd) (ρ : Int → T), m = freeV ρ ∧ v = .slice p' s.length c' ∧ Hid ((Bds.mk p' c' s).InO S wi) ∧ Hid (ListOf ρ s) ∧ Hid (Canon ρ) ∧ Hid (∀ o, Rob ρ (E.drop k) o → Rob varT E o) ∧ Gr w wi)
      case atStart => exact ⟨p', c', s, ρ, rfl, rfl, hin, hls, hca, hco, gr⟩
      case round =>
        clear hin hls hca hco gr
        obtain ⟨p', c', s, ρ, rfl, rfl, hin, hls, hca, hco, gr⟩ := hrel
        obtain ⟨⟨⟨c0, c1, c2, c3⟩, ⟨d0, d1, d2, d3⟩⟩, ⟨hia, hib⟩, hbl⟩ := Hy.out wr gr
        have Hia := Lib.hid hia
        have Hib := Lib.hid hib
        clear hia hib
        have Hav := Lib.hid (show y.a.val = .agg #[.int .i64 y.a.k, .int .i64 y.a.n, .string y.a.s, .slice y.a.p y.a.l.length y.a.c] from rfl)
        have Hbv := Lib.hid (show y.b.val = .agg #[.int .i64 y.b.k, .int .i64 y.b.n, .string y.b.s, .slice y.b.p y.b.l.length y.b.c] from rfl)
        go_upto_region 5 with fail
        refine wp_region_relyA 16 [fx (.slice (some ⟨b, o, none⟩) l.length c), fx (.int .i64 k), fx (.pointer (some ⟨b, o + k * 8, none⟩)), fx (.pointer (some ⟨b, o + k * 8, none⟩)), fx y.a.val, fx (.slice p' s.length c'), tmIs S (T.map ρ y.a.erase), fx (.slice (some ⟨b, o, none⟩) l.length c), fx (.int .i64 k), fx (.pointer (some ⟨b, o + k * 8, none⟩)), fx (.pointer (some ⟨b, o + k * 8 + 4, none⟩)), fx y.b.val, fx (.slice p' s.length c'), tmIs S (T.map ρ y.b.erase), zblk wr.heap.size, zblk wr.heap.size]
          Gr (Apart [(14, 6), (15, 7)]) (by kernel_rfl) (by kernel_rfl) (by decide) (by kernel_rfl) (fun _ _ h => h) (fun _ _ _ h k => Gr.trans h k) (fun w _ => Apart.start _ _ _ w) (by repeat (first | exact StableR.nil | refine StableR.fix ?_ | refine StableR.cons tmIs_stable ?_ | refine StableR.cons zblk_stable ?_)) ?_ ?_
        · refine ⟨stepA_plain (fun _ _ h => h) (fun listed a w w' v h hg => Apart.other rfl listed a w w' v h hg) ?_, stepA_plain (fun _ _ h => h) (fun listed a w w' v h hg => Apart.other rfl listed a w w' v h hg) ?_, stepA_plain (fun _ _ h => h) (fun listed a w w' v h hg => Apart.other rfl listed a w w' v h hg) ?_, stepA_plain (fun _ _ h => h) (fun listed a w w' v h hg => Apart.other rfl listed a w w' v h hg) ?_, stepA_plain (fun _ _ h => h) (fun listed a w w' v h hg => Apart.other rfl listed a w w' v h hg) ?_, stepA_plain (fun _ _ h => h) (fun listed a w w' v h hg => Apart.other rfl listed a w w' v h hg) ?_, stepA_plain (fun _ _ h => h) (fun listed a w w' v h hg => Apart.other rfl listed a w w' v h hg) ?b6, stepA_plain (fun _ _ h => h) (fun listed a w w' v h hg => Apart.other rfl listed a w w' v h hg) ?_, stepA_plain (fun _ _ h => h) (fun listed a w w' v h hg => Apart.other rfl listed a w w' v h hg) ?_, stepA_plain (fun _ _ h => h) (fun listed a w w' v h hg => Apart.other rfl listed a w w' v h hg) ?_, stepA_plain (fun _ _ h => h) (fun listed a w w' v h hg => Apart.other rfl listed a w w' v h hg) ?_, stepA_plain (fun _ _ h => h) (fun listed a w w' v h hg => Apart.other rfl listed a w w' v h hg) ?_, stepA_plain (fun _ _ h => h) (fun listed a w w' v h hg => Apart.other rfl listed a w w' v h hg) ?_, stepA_plain (fun _ _ h => h) (fun listed a w w' v h hg => Apart.other rfl listed a w w' v h hg) ?b13, ?a14, ?a15, trivial⟩
          case a14 =>
            intro listed fr ww hj hl hpre hg hdef hold
            have h0 : fr.tmps[0]?.getD undef = .slice (some ⟨b, o, none⟩) l.length c := hold 0 rfl
            have h4 : fr.tmps[4]?.getD undef = .slice p' s.length c' := hold 4 rfl
            have h5 : fr.tmps[5]?.getD undef = .int .i64 k := hold 5 rfl
            have z0 := Gr.at hg c0
            have z1 := Gr.at hg c1
            have z2 := Gr.at hg c2
            have z3 := Gr.at hg c3
            have z4 := Gr.at hg d0
            have z5 := Gr.at hg d1
            have z6 := Gr.at hg d2
            have z7 := Gr.at hg d3
            have Hg := Lib.hid hg
            clear hold c0 c1 c2 c3 d0 d1 d2 d3
            clear hdef
            simp only [predsImp]
            intro K hK
            go_simp
            exact hK _ _ ⟨ww.heap.size, rfl, hg.size, Blk4.new _ _ _ _ _⟩ (by go_grown) (Apart.new rfl hj (by go_grown) (Nat.le_refl _) (by simp))
          case a15 =>
            intro listed fr ww hj hl hpre hg hdef hold
            have h0 : fr.tmps[0]?.getD undef = .slice (some ⟨b, o, none⟩) l.length c := hold 0 rfl
            have h4 : fr.tmps[4]?.getD undef = .slice p' s.length c' := hold 4 rfl
            have h5 : fr.tmps[5]?.getD undef = .int .i64 k := hold 5 rfl
            have z0 := Gr.at hg c0
            have z1 := Gr.at hg c1
            have z2 := Gr.at hg c2
            have z3 := Gr.at hg c3
            have z4 := Gr.at hg d0
            have z5 := Gr.at hg d1
            have z6 := Gr.at hg d2
            have z7 := Gr.at hg d3
            have Hg := Lib.hid hg
            clear hold c0 c1 c2 c3 d0 d1 d2 d3
            clear hdef
            simp only [predsImp]
            intro K hK
            go_simp
            exact hK _ _ ⟨ww.heap.size, rfl, hg.size, Blk4.new _ _ _ _ _⟩ (by go_grown) (Apart.new rfl hj (by go_grown) (Nat.le_refl _) (by simp))
          case b6 =>
            intro fr ww hg hold
            have h0 : fr.tmps[0]?.getD undef = .slice (some ⟨b, o, none⟩) l.length c := hold 0 rfl
            have h4 : fr.tmps[4]?.getD undef = .slice p' s.length c' := hold 4 rfl
            have h5 : fr.tmps[5]?.getD undef = .int .i64 k := hold 5 rfl
            have z0 := Gr.at hg c0
            have z1 := Gr.at hg c1
            have z2 := Gr.at hg c2
            have z3 := Gr.at hg c3
            have z4 := Gr.at hg d0
            have z5 := Gr.at hg d1
            have z6 := Gr.at hg d2
            have z7 := Gr.at hg d3
            have Hg := Lib.hid hg
            clear hold c0 c1 c2 c3 d0 d1 d2 d3
            simp [predsImp, Region.binds, dstAt, fx]
            intros
            rename_i K hK
            go_simp
            have hra := rapplyOn_calls (S := S) (t := y.a) (x := ⟨p', c', s⟩) (Tm.In_below Hg.out Hia.out) Hfy.out.1 (hin.out.1.mono Hg.out) (fun b hb => Hnw.out b (Nat.le_trans (gr.trans Hg.out).size hb)) hin.out.2
            rw [Hav.out, hls.out.lookup] at hra
            simp only [Bds.val] at hra
            refine hra.mono ?_
            rintro e w9 ⟨bm, i1, i2, rfl, ib, i3⟩
            exact hK _ _ ⟨bm, rfl, i1, i2, i3⟩ ib
          case b13 =>
            intro fr ww hg hold
            have h0 : fr.tmps[0]?.getD undef = .slice (some ⟨b, o, none⟩) l.length c := hold 0 rfl
            have h4 : fr.tmps[4]?.getD undef = .slice p' s.length c' := hold 4 rfl
            have h5 : fr.tmps[5]?.getD undef = .int .i64 k := hold 5 rfl
            have z0 := Gr.at hg c0
            have z1 := Gr.at hg c1
            have z2 := Gr.at hg c2
            have z3 := Gr.at hg c3
            have z4 := Gr.at hg d0
            have z5 := Gr.at hg d1
            have z6 := Gr.at hg d2
            have z7 := Gr.at hg d3
            have Hg := Lib.hid hg
            clear hold c0 c1 c2 c3 d0 d1 d2 d3
            simp [predsImp, Region.binds, dstAt, fx]
            intros
            rename_i K hK
            go_simp
            have hra := rapplyOn_calls (S := S) (t := y.b) (x := ⟨p', c', s⟩) (Tm.In_below Hg.out Hib.out) Hfy.out.2 (hin.out.1.mono Hg.out) (fun b hb => Hnw.out b (Nat.le_trans (gr.trans Hg.out).size hb)) hin.out.2
            rw [Hbv.out, hls.out.lookup] at hra
            simp only [Bds.val] at hra
            refine hra.mono ?_
            rintro e w9 ⟨bm, i1, i2, rfl, ib, i3⟩
            exact hK _ _ ⟨bm, rfl, i1, i2, i3⟩ ib
          all_goals
            intro fr ww hg hold
            have h0 : fr.tmps[0]?.getD undef = .slice (some ⟨b, o, none⟩) l.length c := hold 0 rfl
            have h4 : fr.tmps[4]?.getD undef = .slice p' s.length c' := hold 4 rfl
            have h5 : fr.tmps[5]?.getD undef = .int .i64 k := hold 5 rfl
            have z0 := Gr.at hg c0
            have z1 := Gr.at hg c1
            have z2 := Gr.at hg c2
            have z3 := Gr.at hg c3
            have z4 := Gr.at hg d0
            have z5 := Gr.at hg d1
            have z6 := Gr.at hg d2
            have z7 := Gr.at hg d3
            have Hg := Lib.hid hg
            clear hold c0 c1 c2 c3 d0 d1 d2 d3
            simp [predsImp, Region.binds, dstAt, fx]
            intros
            rename_i K hK
            go_simp
          all_goals exact hK _ _ rfl (Gr.rfl' _)
        · intro w9 hg
          rintro _ rfl _ rfl _ rfl _ rfl _ rfl _ rfl _ ⟨x, rfl, ix, ex, ox⟩ _ rfl _ rfl _ rfl _ rfl _ rfl _ rfl _ ⟨z, rfl, iz, ez, oz⟩ _ ⟨B6, rfl, hB6, z6⟩ _ ⟨B7, rfl, hB7, z7⟩ hap
          simp only [Act.put, List.setIfInBounds_toArray, List.set_cons_succ, List.set_cons_zero, List.drop_succ_cons, List.drop_zero] at hap ⊢
          have e67 : B6 ≠ B7 := hap.apart (x := (14, 6)) (y := (15, 7)) (by decide) (by decide) (by decide) (by show 14 < 16; omega) (by show 15 < 16; omega) rfl rfl
          clear hap
          have gw9 : Gr w w9 := gr.trans hg
          have Hox := Lib.hid ox
          have Hoz := Lib.hid oz
          clear ox oz
          have hfx : x.erase.formed = true := by rw [ex]; exact hca.out.map Hfy.out.1
          have hfz : z.erase.formed = true := by rw [ez]; exact hca.out.map Hfy.out.2
          have Htwo := Lib.hid (two_terms ix iz hfx hfz z6 z7 e67)
          have Hin9 := Lib.hid (hin.out.mono hg)
          have Hxv := Lib.hid (show x.val = .agg #[.int .i64 x.k, .int .i64 x.n, .string x.s, .slice x.p x.l.length x.c] from rfl)
          have Hzv := Lib.hid (show z.val = .agg #[.int .i64 z.k, .int .i64 z.n, .string z.s, .slice z.p z.l.length z.c] from rfl)
          obtain ⟨⟨p0, p1, p2, p3⟩, ⟨f0, f1, f2, f3⟩, _⟩ := Blk4.parts z6
          obtain ⟨⟨q0, q1, q2, q3⟩, ⟨g0, g1, g2, g3⟩, _⟩ := Blk4.parts z7
          have hwr : w.heap.size ≤ wr.heap.size := gr.size
          clear ix iz z6 z7 c0 c1 c2 c3 d0 d1 d2 d3
          rw [Hxv.out, Hzv.out]
          go_upto_region 6 with fail
          have Hfx := Lib.hid hfx
          have Hfz := Lib.hid hfz
          clear p0 p1 p2 p3 f0 f1 f2 f3 q0 q1 q2 q3 g0 g1 g2 g3 hfx hfz
          obtain ⟨ix, iz, b6, b7, k67⟩ := Htwo.out _ rfl
          generalize ((((((((w9.setCell ⟨B6, 0, none⟩ (.int .i64 x.k)).setCell ⟨B6, 1, none⟩ (.int .i64 x.n)).setCell ⟨B6, 2, none⟩ (.string x.s)).setCell ⟨B6, 3, none⟩ (.slice x.p x.l.length x.c)).setCell ⟨B7, 0, none⟩ (.int .i64 z.k)).setCell ⟨B7, 1, none⟩ (.int .i64 z.n)).setCell ⟨B7, 2, none⟩ (.string z.s)).setCell ⟨B7, 3, none⟩ (.slice z.p z.l.length z.c)) = wC at *
          have gwC : Gr wr wC := Below.trans hg (k67.below (fun b hb => by rcases hb with rfl | rfl <;> omega) hg.size)
          have Ix := Lib.hid ix
          have Iz := Lib.hid iz
          have B6' := Lib.hid b6
          have B7' := Lib.hid b7
          obtain ⟨⟨p0, p1, p2, p3⟩, _, _⟩ := Blk4.parts b6
          obtain ⟨⟨q0, q1, q2, q3⟩, _, _⟩ := Blk4.parts b7
          have gR : Gr w wC := gr.trans gwC
          have HinC := Lib.hid (hin.out.mono gwC)
          have Hslim := Lib.hid (show ∀ W, Gr (wC.alloc (.cells #[.int .i64 x.k, .int .i64 x.n, .string x.s, .slice x.p x.l.length x.c, .int .i64 z.k, .int .i64 z.n, .string z.s, .slice z.p z.l.length z.c] 24)) W → Calls Tryz.prog 60 #[.slice (some ⟨wC.heap.size, 0, none⟩) 2 2] W (RetSlim (∃ u ∈ [x, z], Fat u.erase) W) from fun W hW => slim_calls _ 2 [x, z] W (two_new ix iz hW))
          clear Htwo k67 b6 b7 ix iz gw9 Hin9 e67
          go_wp2_with fail
          refine (Hslim.out _ (Gr.rfl' _)).mono ?_
          rintro e w2 ⟨hs, hg2⟩
          have g2 : Gr wC w2 := Below.trans (show Gr wC _ by go_grown) (Below.mono hg2 (by simp))
          have gw2 : Gr w w2 := gR.trans g2
          clear hg2 p0 p1 p2 p3 q0 q1 q2 q3
          rcases hs with ⟨rfl, hnf⟩ | ⟨hE, hfat⟩
          · have Hnf : Hid (¬ (Fat (T.map ρ y.a.erase) ∨ Fat (T.map ρ y.b.erase))) := fun hf => hnf (hf.elim (fun h => ⟨x, by simp, by rw [ex]; exact h⟩) fun h => ⟨z, by simp, by rw [ez]; exact h⟩)
            clear hnf
            obtain ⟨⟨p0, p1, p2, p3⟩, _, _⟩ := Blk4.parts (Blk4.gr B6'.out g2)
            obtain ⟨⟨q0, q1, q2, q3⟩, _, _⟩ := Blk4.parts (Blk4.gr B7'.out g2)
            have hfc := first_calls x z w2 (Tm.In_below g2 Ix.out) (Tm.In_below g2 Iz.out)
            have hfa := Tm.fd_all (fun t => t.In w2 ∧ t.On S) (fun k n s p c l h y hy => by rw [Tm.In, Tm.On] at h; exact ⟨Tm.InL_mem h.1.2.2.2.2.2.2 y hy, Tm.OnL_mem h.2.2 y hy⟩) x z ⟨Tm.In_below g2 Ix.out, Hox.out⟩ ⟨Tm.In_below g2 Iz.out, Hoz.out⟩
            have hfd := Tm.fd_diff x z
            rw [ex, ez] at hfd
            rw [Hxv.out, Hzv.out] at hfc
            generalize Tm.fd x z = r at hfc hfa hfd
            obtain ⟨X, Y, d⟩ := r
            simp only at hfc hfa
            have HXv := Lib.hid (show X.val = .agg #[.int .i64 X.k, .int .i64 X.n, .string X.s, .slice X.p X.l.length X.c] from rfl)
            have HYv := Lib.hid (show Y.val = .agg #[.int .i64 Y.k, .int .i64 Y.n, .string Y.s, .slice Y.p Y.l.length Y.c] from rfl)
            rw [HXv.out, HYv.out] at hfc
            have Hfc := Lib.hid hfc
            have Hfd := Lib.hid hfd
            have IX := Lib.hid hfa.1.1
            have IY := Lib.hid hfa.2.1
            have OX := Lib.hid hfa.1.2
            have OY := Lib.hid hfa.2.2
            clear hfc hfd hfa
            go_wp2_with fail
            refine Hfc.out.mono ?_
            rintro e w3 ⟨rfl, hg3⟩
            replace hg3 : Gr w2 w3 := hg3
            clear p0 p1 p2 p3 q0 q1 q2 q3
            go_upto_region 8 with fail
            obtain ⟨bx, byy, gD⟩ := two_blocks w3 (.int .i64 X.k) (.int .i64 X.n) (.string X.s) (.slice X.p X.l.length X.c) (.int .i64 Y.k) (.int .i64 Y.n) (.string Y.s) (.slice Y.p Y.l.length Y.c)
            generalize ((w3.alloc (.cells #[.int .i64 X.k, .int .i64 X.n, .string X.s, .slice X.p X.l.length X.c] 24)).alloc (.cells #[.int .i64 Y.k, .int .i64 Y.n, .string Y.s, .slice Y.p Y.l.length Y.c] 24)) = wD at *
            have h8l : w3.heap.size + 1 < wD.heap.size := byy.out.parts.2.2
            have gw3 : Gr w w3 := gw2.trans hg3
            have IXD := Lib.hid (Tm.In_below (hg3.trans gD) IX.out)
            have IYD := Lib.hid (Tm.In_below (hg3.trans gD) IY.out)
            have IX3 := Lib.hid (Tm.In_below hg3 IX.out)
            have IY3 := Lib.hid (Tm.In_below hg3 IY.out)
            have HinD := Lib.hid (HinC.out.mono (g2.trans (hg3.trans gD)))
            cases d with
            | false =>
              have hnone : T.diff (T.map ρ y.a.erase) (T.map ρ y.b.erase) = none := Hfd.out
              have Hco2 : Hid (∀ o, Rob ρ (E.drop (k + 1)) o → Rob varT E o) := fun o ho => hco.out o (by rw [Hdr.out]; exact Rob.same Hnf.out hnone ho)
              have gwD : Gr w wD := gw3.trans gD
              clear hnone
              go_wp2_with fail
              go_roundg (l.length - (k + 1))
              case measure => omega
              case rel => exact ⟨k + 1, p', c', s, ρ, by omega, rfl, by go_num, rfl, HinD, hls, hca, Hco2, gwD⟩
            | true =>
              have hsome : T.diff (T.map ρ y.a.erase) (T.map ρ y.b.erase) = some (X.erase, Y.erase) := Hfd.out
              have Hsome := Lib.hid hsome
              clear hsome
              obtain ⟨⟨x0, x1, x2, x3⟩, _, _⟩ := bx.out.parts
              obtain ⟨⟨y0, y1, y2, y3⟩, _, _⟩ := byy.out.parts
              go_upto_region 9 with fail
              go_cut [60] from 46 to 60 (fun v wx => v = .bool (decide (Y.k = 1 ∧ (X.k ≠ 1 ∨ X.n < Y.n))) ∧ wx = wD)
              case first =>
                by_cases yk : Y.k = 1
                · have yk1 : (Y.k == 1) = true := by simp [yk]
                  by_cases xk : X.k = 1
                  · have xk1 : (X.k != 1) = false := by simp [xk]
                    have hd : decide (Y.k = 1 ∧ (X.k ≠ 1 ∨ X.n < Y.n)) = decide (X.n < Y.n) := by simp [yk, xk]
                    have Hd := Lib.hid hd
                    clear hd yk xk
                    go_wp2_with fail
                    go_meet
                    exact ⟨by rw [Hd.out], rfl⟩
                  · have xk1 : (X.k != 1) = true := by simp [xk]
                    have hd : decide (Y.k = 1 ∧ (X.k ≠ 1 ∨ X.n < Y.n)) = true := by simp [yk, xk]
                    have Hd := Lib.hid hd
                    clear hd yk xk
                    go_wp2_with fail
                    go_meet
                    exact ⟨by rw [Hd.out], rfl⟩
                · have yk1 : (Y.k == 1) = false := by simp [yk]
                  have hd : decide (Y.k = 1 ∧ (X.k ≠ 1 ∨ X.n < Y.n)) = false := by simp [yk]
                  have Hd := Lib.hid hd
                  clear hd yk
                  go_wp2_with fail
                  go_meet
                  exact ⟨by rw [Hd.out], rfl⟩
              obtain ⟨rfl, rfl⟩ := hcut
              have hXY := orientM_all (R := fun t => t.In w3 ∧ t.On S) ⟨IX3.out, OX.out⟩ ⟨IY3.out, OY.out⟩
              have hor := orientM_erase X Y
              have hom : orientM X Y = if Y.k = 1 ∧ (X.k ≠ 1 ∨ X.n < Y.n) then (Y, X) else (X, Y) := rfl
              have Hom := Lib.hid hom
              generalize orientM X Y = XY at hXY hor Hom
              obtain ⟨X', Y'⟩ := XY
              simp only at hXY hor
              have Hor := Lib.hid hor
              have HXY := Lib.hid hXY
              clear hom hor hXY
              clear x0 x1 x2 x3 y0 y1 y2 y3
              go_upto_if 60 with fail
              go_cut [] from 60 to 62 (fun wx => BlkTm wx w3.heap.size X' ∧ BlkTm wx (w3.heap.size + 1) Y' ∧ Gr w3 wx)
              case first =>
                obtain ⟨⟨x0, x1, x2, x3⟩, ⟨f0, f1, f2, f3⟩, _⟩ := bx.out.parts
                obtain ⟨⟨y0, y1, y2, y3⟩, ⟨g0, g1, g2, g3⟩, _⟩ := byy.out.parts
                by_cases hsw : Y.k = 1 ∧ (X.k ≠ 1 ∨ X.n < Y.n)
                · have hd : decide (Y.k = 1 ∧ (X.k ≠ 1 ∨ X.n < Y.n)) = true := decide_eq_true hsw
                  rw [hd]
                  have he := Hom.out
                  rw [if_pos hsw] at he
                  cases he
                  clear hd hsw
                  go_wp2_with fail
                  go_meet
                  obtain ⟨b8, b9, k89⟩ := two_stores Y X bx.out byy.out (by omega) _ rfl
                  exact ⟨b8, b9, Below.trans gD (k89.below (fun b hb => by omega) gD.size)⟩
                · have hd : decide (Y.k = 1 ∧ (X.k ≠ 1 ∨ X.n < Y.n)) = false := decide_eq_false hsw
                  rw [hd]
                  have he := Hom.out
                  rw [if_neg hsw] at he
                  cases he
                  clear hd hsw x0 x1 x2 x3 f0 f1 f2 f3 y0 y1 y2 y3 g0 g1 g2 g3
                  go_wp2_with fail
                  go_meet
                  exact ⟨bx.out, byy.out, gD⟩
              obtain ⟨b8, b9, g3c⟩ := hcut
              have gwc : Gr w wc := gw3.trans g3c
              have IX' := Lib.hid (Tm.In_below g3c HXY.out.1.1)
              have IY' := Lib.hid (Tm.In_below g3c HXY.out.2.1)
              have OY' := Lib.hid HXY.out.2.2
              have Hinc := Lib.hid (HinC.out.mono (g2.trans (hg3.trans g3c)))
              have hds := differ_step hca.out Hfy.out.1 Hfy.out.2 Hsome.out
              have hdc := differ_canon hca.out Hfy.out.1 Hfy.out.2 Hsome.out
              rw [Hor.out] at hds hdc
              simp only [Tm.erase_k, Tm.erase_n] at hds hdc
              obtain ⟨-, hfX, hfY, -, hyf, hne, -, -⟩ := hds
              have HfY := Lib.hid hfY
              have Hyf := Lib.hid hyf
              have Hne := Lib.hid hne
              have Hdc := Lib.hid hdc
              clear hfX hfY hyf hne hdc
              have Hclash : Hid ((X'.k ≠ 1 ∨ T.occ X'.n Y'.erase) → Rob varT E .clash) := fun h => hco.out _ (by
                rw [Hdr.out]
                refine Rob.clash Hnf.out Hsome.out ?_
                rw [Hor.out]
                simp only [Tm.erase_k, Tm.erase_n]
                exact h)
              have HYv' := Lib.hid (show Y'.val = .agg #[.int .i64 Y'.k, .int .i64 Y'.n, .string Y'.s, .slice Y'.p Y'.l.length Y'.c] from rfl)
              obtain ⟨⟨x0, x1, x2, x3⟩, _, _⟩ := Blk4.parts b8
              obtain ⟨⟨y0, y1, y2, y3⟩, _, _⟩ := Blk4.parts b9
              have B8 := Lib.hid b8
              have B9 := Lib.hid b9
              generalize w3.heap.size + 1 = P9 at *
              generalize w3.heap.size = P8 at *
              clear b8 b9 bx byy gD h8l IXD IYD HinD IX3 IY3
              go_upto_region 11 with fail
              by_cases hk1 : X'.k = 1
              · have Hk1 := Lib.hid hk1
                have hk2 : (X'.k != 1) = false := by simp [hk1]
                have hbw := fun (w' : World) (pv : Option Addr) (cv : Nat) (h : IntSl w' pv cv (T.varsL [Y'.erase] [])) => has_calls pv cv (T.varsL [Y'.erase] []) X'.n w' h
                have Hbw := Lib.hid hbw
                have Hmem := Lib.hid (mem_varsOne HfY.out X'.n)
                have Hdec := Lib.hid (has_occ HfY.out X'.n)
                have hvl : (T.varsL [Y'.erase] []) = T.varsL (Tm.eraseL [Y']) [] := by rw [Tm.eraseL, Tm.eraseL]
                have Hvars := Lib.hid (fun M w' (h : Tm.Sl w' (some ⟨M, 0, none⟩) 1 [Y']) => show Calls Tryz.prog 12 #[.slice (some ⟨M, 0, none⟩) 1 1] w' (RetInts (T.varsL [Y'.erase] []) w') by
                  rw [hvl]
                  exact rvars_calls (some ⟨M, 0, none⟩) 1 [Y'] w' h (fun x hx => by rw [List.mem_singleton] at hx; rw [hx]; exact HfY.out))
                clear hk1 hbw hvl
                generalize T.varsL [Y'.erase] [] = V at *
                refine wp_region_rely [fx (.pointer (some ⟨P8, 0, none⟩)), fx (.int .i64 X'.k), fx (.bool false), fx (.bool false), fx (.agg #[.int .i64 Y'.k, .int .i64 Y'.n, .string Y'.s, .slice Y'.p Y'.l.length Y'.c]), oneSl Y', intsV V, fx (.pointer (some ⟨P8, 1, none⟩)), fx (.int .i64 X'.n), fx (.int .i64 (hasIdx V X'.n)), fx (.bool (decide (X'.n ∈ V))), fx (.bool (decide (X'.n ∈ V)))]
                  (by kernel_rfl) (by kernel_rfl) (by repeat (first | exact Stable.nil | refine Stable.fix ?_ | refine Stable.cons oneSl_stable ?_ | refine Stable.cons intsV_stable ?_)) ?_ ?_
                · refine ⟨?_, ?_, ?_, ?_, ?_, ?a5, ?a6, ?_, ?_, ?a9, ?a10, ?_, trivial⟩
                  case a5 =>
                    intro a wz hg hold
                    have h8 : a.tmps[8]?.getD undef = .pointer (some ⟨P8, 0, none⟩) := hold 8 rfl
                    have h9 : a.tmps[9]?.getD undef = .pointer (some ⟨P9, 0, none⟩) := hold 9 rfl
                    have z0 := Gr.at hg x0
                    have z1 := Gr.at hg x1
                    have z2 := Gr.at hg x2
                    have z3 := Gr.at hg x3
                    have zy0 := Gr.at hg y0
                    have zy1 := Gr.at hg y1
                    have zy2 := Gr.at hg y2
                    have zy3 := Gr.at hg y3
                    have Hg := Lib.hid hg
                    clear hold x0 x1 x2 x3 y0 y1 y2 y3
                    simp [predsImp, Region.binds, dstAt, fx, wantedE, Act.eval]
                    intros
                    go_simp
                    intro K hK
                    exact hK _ _ ⟨_, rfl, one_new (Tm.In_below Hg.out IY'.out) (Gr.rfl' _)⟩ (by go_grown)
                  case a6 =>
                    intro a wz hg hold
                    have h8 : a.tmps[8]?.getD undef = .pointer (some ⟨P8, 0, none⟩) := hold 8 rfl
                    have h9 : a.tmps[9]?.getD undef = .pointer (some ⟨P9, 0, none⟩) := hold 9 rfl
                    have z0 := Gr.at hg x0
                    have z1 := Gr.at hg x1
                    have z2 := Gr.at hg x2
                    have z3 := Gr.at hg x3
                    have zy0 := Gr.at hg y0
                    have zy1 := Gr.at hg y1
                    have zy2 := Gr.at hg y2
                    have zy3 := Gr.at hg y3
                    have Hg := Lib.hid hg
                    clear hold x0 x1 x2 x3 y0 y1 y2 y3
                    simp [predsImp, Region.binds, dstAt, fx, wantedE, Act.eval]
                    intros
                    obtain ⟨M, hM, hsl⟩ := ‹oneSl _ _ _›
                    go_simp
                    intro K hK
                    refine (Hvars.out M _ hsl).mono ?_
                    rintro e w9 ⟨pv, cv, rfl, hi, ib⟩
                    exact hK _ _ ⟨pv, cv, rfl, hi⟩ ib
                  case a9 =>
                    intro a wz hg hold
                    have h8 : a.tmps[8]?.getD undef = .pointer (some ⟨P8, 0, none⟩) := hold 8 rfl
                    have h9 : a.tmps[9]?.getD undef = .pointer (some ⟨P9, 0, none⟩) := hold 9 rfl
                    have z0 := Gr.at hg x0
                    have z1 := Gr.at hg x1
                    have z2 := Gr.at hg x2
                    have z3 := Gr.at hg x3
                    have zy0 := Gr.at hg y0
                    have zy1 := Gr.at hg y1
                    have zy2 := Gr.at hg y2
                    have zy3 := Gr.at hg y3
                    have Hg := Lib.hid hg
                    clear hold x0 x1 x2 x3 y0 y1 y2 y3
                    simp [predsImp, Region.binds, dstAt, fx, wantedE, Act.eval]
                    intros
                    obtain ⟨pv, cv, hv, hi⟩ := ‹intsV _ _ _›
                    go_simp
                    intro K hK
                    refine (Hbw.out _ _ _ hi).mono ?_
                    rintro e w9 ⟨rfl, ib⟩
                    exact hK _ _ rfl ib
                  case a10 =>
                    intro a wz hg hold
                    have h8 : a.tmps[8]?.getD undef = .pointer (some ⟨P8, 0, none⟩) := hold 8 rfl
                    have h9 : a.tmps[9]?.getD undef = .pointer (some ⟨P9, 0, none⟩) := hold 9 rfl
                    have z0 := Gr.at hg x0
                    have z1 := Gr.at hg x1
                    have z2 := Gr.at hg x2
                    have z3 := Gr.at hg x3
                    have zy0 := Gr.at hg y0
                    have zy1 := Gr.at hg y1
                    have zy2 := Gr.at hg y2
                    have zy3 := Gr.at hg y3
                    have Hg := Lib.hid hg
                    clear hold x0 x1 x2 x3 y0 y1 y2 y3
                    simp [predsImp, Region.binds, dstAt, fx, wantedE, Act.eval]
                    intros
                    go_simp
                    intro K hK
                    exact hK _ _ (congrArg Value.bool Hdec.out) (Gr.rfl' _)
                  all_goals
                    intro a wz hg hold
                    have h8 : a.tmps[8]?.getD undef = .pointer (some ⟨P8, 0, none⟩) := hold 8 rfl
                    have h9 : a.tmps[9]?.getD undef = .pointer (some ⟨P9, 0, none⟩) := hold 9 rfl
                    have z0 := Gr.at hg x0
                    have z1 := Gr.at hg x1
                    have z2 := Gr.at hg x2
                    have z3 := Gr.at hg x3
                    have zy0 := Gr.at hg y0
                    have zy1 := Gr.at hg y1
                    have zy2 := Gr.at hg y2
                    have zy3 := Gr.at hg y3
                    have Hg := Lib.hid hg
                    clear hold x0 x1 x2 x3 y0 y1 y2 y3
                    simp [predsImp, Region.binds, dstAt, fx, wantedE, Act.eval]
                    intros
                    first
                      | (rw [if_pos (by simp [*])]
                         intro K hK)
                      | (rename_i K hK)
                    go_simp
                  all_goals exact hK _ _ rfl (Gr.rfl' _)
                · intro w5 hg
                  rintro _ rfl _ rfl _ rfl _ rfl _ rfl _ - _ - _ rfl _ rfl _ rfl _ rfl _ rfl
                  simp only [finAll, Act.put, Exit.then, List.setIfInBounds_toArray, List.set_cons_succ, List.set_cons_zero]
                  have gw5 : Gr w w5 := gwc.trans hg
                  have Hin5 := Lib.hid (Hinc.out.mono hg)
                  have B85 := Lib.hid (Blk4.gr B8.out hg)
                  have B95 := Lib.hid (Blk4.gr B9.out hg)
                  have IY5 := Lib.hid (Tm.In_below hg IY'.out)
                  have IX5 := Lib.hid (Tm.In_below hg IX'.out)
                  obtain ⟨⟨t0, t1, t2, t3⟩, _, _⟩ := Blk4.parts B85.out
                  obtain ⟨⟨v0, v1, v2, v3⟩, _, _⟩ := Blk4.parts B95.out
                  clear x0 x1 x2 x3 y0 y1 y2 y3 hg
                  by_cases hoc : X'.n ∈ V
                  · have hd : decide (X'.n ∈ V) = true := decide_eq_true hoc
                    rw [hd]
                    have Hcl := Lib.hid (Hclash.out (.inr (Hmem.out.1 hoc)))
                    clear hd hoc
                    go_wp2_with fail
                    exact HQ.out .clash _ _ Hcl.out rfl gw5
                  · have hd : decide (X'.n ∈ V) = false := decide_eq_false hoc
                    rw [hd]
                    have hnoc : ¬ T.occ X'.n Y'.erase := fun h => hoc (Hmem.out.2 h)
                    have hnc : ¬ (X'.k ≠ 1 ∨ T.occ X'.n Y'.erase) := fun h => h.elim (fun h => h Hk1.out) hnoc
                    obtain ⟨hcan, -, hXvar, hXfree, hXto, hXr⟩ := Hdc.out hnc
                    have Hcan := Lib.hid hcan
                    have Hxr := Lib.hid hXr
                    have HneV : Hid (Y'.erase ≠ varT X'.n) := fun e => Hne.out (hXvar.trans e.symm)
                    have Hmeas := Lib.hid (freeV_step hca.out hXfree hXr Hyf.out HneV.out)
                    have hn64 : In64 X'.n := ⟨by omega, by omega⟩
                    have Hstep : Hid (¬ (∃ n, Fat (stepF ρ X'.n Y'.erase n)) → ∀ o, Rob (stepF ρ X'.n Y'.erase) (E.drop k) o → Rob varT E o) := fun hnf o ho => hco.out o (by
                      rw [Hdr.out] at ho ⊢
                      have h1 : (orient X.erase Y.erase).1.n = X'.n ∧ (orient X.erase Y.erase).2 = Y'.erase := by rw [Hor.out]; exact ⟨Tm.erase_n _, rfl⟩
                      refine Rob.step Hnf.out Hsome.out ?_ ?_ ?_
                      · rw [Hor.out]; simp only [Tm.erase_k, Tm.erase_n]; exact hnc
                      · rw [h1.1, h1.2]; exact hnf
                      · rw [h1.1, h1.2]; exact ho)
                    have Hgrow : Hid ((∃ n, Fat (stepF ρ X'.n Y'.erase n)) → Rob varT E .grown) := fun hnf => hco.out _ (by
                      rw [Hdr.out]
                      have h1 : (orient X.erase Y.erase).1.n = X'.n ∧ (orient X.erase Y.erase).2 = Y'.erase := by rw [Hor.out]; exact ⟨Tm.erase_n _, rfl⟩
                      refine Rob.grow Hnf.out Hsome.out ?_ ?_
                      · rw [Hor.out]; simp only [Tm.erase_k, Tm.erase_n]; exact hnc
                      · rw [h1.1, h1.2]; exact hnf)
                    clear hd hoc hnoc hnc hcan hXvar hXfree hXto
                    go_upto_region 14 with fail
                    have Hone := Lib.hid (one_bd (w := w5) (x := ⟨X'.n, Y'⟩) hn64 IY5.out (Gr.rfl' _))
                    have gF : Gr w5 (w5.alloc (.cells (bdCells ⟨X'.n, Y'⟩) 96)) := by go_grown
                    simp only [bdCells] at Hone gF
                    generalize w5.alloc (.cells #[.int .i64 X'.n, .int .i64 Y'.k, .int .i64 Y'.n, .string Y'.s, .slice Y'.p Y'.l.length Y'.c] 96) = wF at *
                    generalize w5.heap.size = M0 at *
                    have gwF : Gr w wF := gw5.trans gF
                    have hco2 := rcomposeO_calls S p' (some ⟨M0, 0, none⟩) c' 1 s [⟨X'.n, Y'⟩] wF (Hin5.out.1.mono gF) Hone.out hls.out.err (bindsErr_one HfY.out Hxr.out) (fun b hb => Hnw.out b (Nat.le_trans gwF.size hb)) (fun q hq => by rw [List.mem_singleton] at hq; rw [hq]; exact OY'.out)
                    have Hcomp := Lib.hid (show Calls Tryz.prog 62 #[.slice p' s.length c', .slice (some ⟨M0, 0, none⟩) 1 1] wF (RetBsO S (compM s [⟨X'.n, Y'⟩]) wF) from hco2)
                    clear hco2 gF t0 t1 t2 t3 v0 v1 v2 v3
                    go_wp2_with fail
                    refine Hcomp.out.mono ?_
                    rintro e w6 ⟨p2, c2, s2, rfl, in2, is2, gg6⟩
                    have gw6 : Gr w w6 := gwF.trans gg6
                    have In2 := Lib.hid in2
                    have Hl2 := Lib.hid (ListOf.step hls.out Hxr.out is2)
                    have hl2 := in2.1.2.1.1
                    simp only at hl2
                    clear in2 is2 gg6
                    go_wp2_with fail
                    go_loopg [12] s2.length (fun m i wj => ∃ j : Nat, j ≤ s2.length ∧ m = s2.length - j ∧ i = .int .i64 j ∧ Hid (∀ (a : Nat) (h : a < s2.length), a < j → ¬ Fat s2[a].t.erase) ∧ Hid (Gr w6 wj))
                    case atStart => exact ⟨0, Nat.zero_le _, rfl, rfl, fun a _ h => absurd h (Nat.not_lt_zero a), Gr.rfl' _⟩
                    case round =>
                      obtain ⟨j, hj, rfl, rfl, hpre, hgj⟩ := hrel
                      have gwj : Gr w wr := gw6.trans hgj.out
                      have hInj := In2.out.mono hgj.out
                      by_cases hjl : j < s2.length
                      · obtain ⟨b2, o2, rfl⟩ := hInj.1.ptr (by omega)
                        obtain ⟨⟨e0, e1, e2, e3, e4⟩, hti, -, -⟩ := hInj.1.elem j hjl
                        have Hti := Lib.hid hti
                        have Hfj : Hid (Fat s2[j].t.erase → Rob varT E .grown) := fun h => Hgrow.out ⟨s2[j].v, by rw [(Hl2.out.mem (List.getElem_mem hjl)).1]; exact h⟩
                        have Hnj : Hid (¬ Fat s2[j].t.erase → ∀ (a : Nat) (h : a < s2.length), a < j + 1 → ¬ Fat s2[a].t.erase) := fun hn a h ha => by
                          rcases Nat.lt_or_ge a j with h1 | h1
                          · exact hpre.out a h h1
                          · obtain rfl : a = j := by omega
                            exact hn
                        clear hti hInj
                        generalize s2[j] = q at *
                        have Hs1 := Lib.hid (show ∀ W, Gr (wr.alloc (.cells #[.int .i64 q.t.k, .int .i64 q.t.n, .string q.t.s, .slice q.t.p q.t.l.length q.t.c] 24)) W → Calls Tryz.prog 60 #[.slice (some ⟨wr.heap.size, 0, none⟩) 1 1] W (RetSlim (∃ u ∈ [q.t], Fat u.erase) W) from fun W hW => slim_calls _ 1 [q.t] W (one_new Hti.out hW))
                        go_wp2_with fail
                        refine (Hs1.out _ (Gr.rfl' _)).mono ?_
                        rintro e w7 ⟨hs, hg7⟩
                        have g7 : Gr wr w7 := Below.trans (show Gr wr _ by go_grown) (Below.mono hg7 (by simp))
                        clear hg7 e0 e1 e2 e3 e4
                        rcases hs with ⟨rfl, hnf⟩ | ⟨hE, hfat⟩
                        · have Hnext := Lib.hid (Hnj.out fun h => hnf ⟨q.t, by simp, h⟩)
                          clear hnf
                          have gj7 : Gr w6 w7 := hgj.out.trans g7
                          go_wp2_with fail
                          go_roundg (s2.length - (j + 1))
                          case measure => omega
                          case rel => exact ⟨j + 1, by omega, rfl, by go_num, Hnext, gj7⟩
                        · rw [GrownE] at hE
                          subst hE
                          obtain ⟨u, hu, hfu⟩ := hfat
                          rw [List.mem_singleton] at hu
                          subst hu
                          exact ⟨rfl, HQ.out .grown _ _ (Hfj.out hfu) rfl (gwj.trans g7)⟩
                      · obtain rfl : j = s2.length := by omega
                        have Hnfat := Lib.hid (not_fat_list Hl2.out fun a h => hpre.out a h h)
                        have Hcon := Lib.hid (Hstep.out Hnfat.out)
                        have HIn := Lib.hid hInj
                        clear hInj
                        go_wp2_with fail
                        go_roundg (freeV (stepF ρ X'.n Y'.erase))
                        case measure => exact Hmeas.out
                        case rel => exact ⟨p2, c2, s2, _, rfl, rfl, HIn, Hl2, Hcan, Hcon, gwj⟩
              · have hk2 : (X'.k != 1) = true := by simp [hk1]
                have Hcl := Lib.hid (Hclash.out (.inl hk1))
                clear hk1
                refine wp_region_rely [fx (.pointer (some ⟨P8, 0, none⟩)), fx (.int .i64 X'.k), fx (.bool true), fx (.bool true), fx undef, fx undef, fx undef, fx undef, fx undef, fx undef, fx undef, fx (.bool true)]
                  (by kernel_rfl) (by kernel_rfl) (by repeat (first | exact Stable.nil | refine Stable.fix ?_)) ?_ ?_
                · refine ⟨?_, ?_, ?_, ?_, ?a4, ?a5, ?a6, ?a7, ?a8, ?a9, ?a10, ?_, trivial⟩
                  case a4 => exact stepOK_skip 3 false 66 rfl rfl rfl ⟨⟨3, Ground.guard⟩, by simp, rfl, rfl⟩
                  case a5 => exact stepOK_skip 3 false 66 rfl rfl rfl ⟨⟨3, Ground.guard⟩, by simp, rfl, rfl⟩
                  case a6 => exact stepOK_skip 3 false 66 rfl rfl rfl ⟨⟨3, Ground.guard⟩, by simp, rfl, rfl⟩
                  case a7 => exact stepOK_skip 3 false 66 rfl rfl rfl ⟨⟨3, Ground.guard⟩, by simp, rfl, rfl⟩
                  case a8 => exact stepOK_skip 3 false 66 rfl rfl rfl ⟨⟨3, Ground.guard⟩, by simp, rfl, rfl⟩
                  case a9 => exact stepOK_skip 3 false 66 rfl rfl rfl ⟨⟨3, Ground.guard⟩, by simp, rfl, rfl⟩
                  case a10 => exact stepOK_skip 3 false 66 rfl rfl rfl ⟨⟨3, Ground.guard⟩, by simp, rfl, rfl⟩
                  all_goals
                    intro a wz hg hold
                    have h8 : a.tmps[8]?.getD undef = .pointer (some ⟨P8, 0, none⟩) := hold 8 rfl
                    have h9 : a.tmps[9]?.getD undef = .pointer (some ⟨P9, 0, none⟩) := hold 9 rfl
                    have z0 := Gr.at hg x0
                    have z1 := Gr.at hg x1
                    have z2 := Gr.at hg x2
                    have z3 := Gr.at hg x3
                    have zy0 := Gr.at hg y0
                    have zy1 := Gr.at hg y1
                    have zy2 := Gr.at hg y2
                    have zy3 := Gr.at hg y3
                    have Hg := Lib.hid hg
                    clear hold x0 x1 x2 x3 y0 y1 y2 y3
                    simp [predsImp, Region.binds, dstAt, fx]
                    intros
                    first
                      | (rw [if_pos (by simp [*])]
                         intro K hK)
                      | (rename_i K hK)
                    go_simp
                  all_goals exact hK _ _ rfl (Gr.rfl' _)
                · intro w5 hg
                  rintro _ rfl _ rfl _ rfl _ rfl _ rfl _ rfl _ rfl _ rfl _ rfl _ rfl _ rfl _ rfl
                  simp only [finAll, Act.put, Exit.then, List.setIfInBounds_toArray, List.set_cons_succ, List.set_cons_zero]
                  have gw5 : Gr w w5 := gwc.trans hg
                  clear x0 x1 x2 x3 y0 y1 y2 y3 hg
                  go_wp2_with fail
                  exact HQ.out .clash _ _ Hcl.out rfl gw5
          · rw [GrownE] at hE
            subst hE
            have Hfat : Hid (Fat (T.map ρ y.a.erase) ∨ Fat (T.map ρ y.b.erase)) := by
              obtain ⟨u, hu, h⟩ := hfat
              rcases List.mem_cons.1 hu with rfl | hu
              · rw [ex] at h; exact .inl h
              · rw [List.mem_singleton] at hu
                subst hu
                rw [ez] at h; exact .inr h
            exact ⟨rfl, HQ.out .grown _ _ (hco.out _ (by rw [Hdr.out]; exact Rob.fat Hfat.out)) rfl gw2⟩
    · obtain rfl : k = l.length := by omega
      have Hdone : Hid (Rob varT E (.done ρ)) := hco.out _ (by
        rw [List.drop_eq_nil_of_le (by rw [← HE.out, seePrs, List.length_map]; exact Nat.le_refl _)]
        exact Rob.nil ρ)
      go_wp2_with fail
      exact HQ.out (.done ρ) _ _ Hdone.out ⟨p', c', s, rfl, hin.out, hls.out⟩ gr
theorem runify_calls (p : Option Addr) (c : Nat) (l : List Pr) (w : World) (h : (Prs.mk p c l).In w) (hf : ∀ y ∈ l, y.a.erase.formed = true ∧ y.b.erase.formed = true) :
    Calls Tryz.prog 40 #[.slice p l.length c] w (RetUnify (seePrs l) w) :=
  (runifyO_calls (fun _ => True) p c l w h hf (fun _ _ => trivial) fun y hy => ⟨(Tm.In.on (h.2.2.2 y hy).1).mono fun _ _ => trivial, (Tm.In.on (h.2.2.2 y hy).2).mono fun _ _ => trivial⟩).mono fun _ _ ⟨o, h1, h2, h3⟩ => ⟨o, h1, (match o, h2 with
    | .grown, h => h
    | .clash, h => h
    | .done _, ⟨p, c, l, a, b, d⟩ => ⟨p, c, l, a, b.1, d⟩), h3⟩
end Go.Proofs.YtjdoflfdlhpbmaaGreat
