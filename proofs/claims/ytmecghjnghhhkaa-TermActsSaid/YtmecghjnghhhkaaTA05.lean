/-
  A term is the same as itself.
  Plain: what TermActs says of substitutions.
  term.Compose: the walk.
-/
import Derived.Test.YtmecghjnghhhkaaUO04
import Derived.Test.YtmecghjnghhhkaaTA04
import Derived.Test.YtmecghjnghhhkaaUO19
import Derived.Test.YtmecghjnghhhkaaUO14
namespace Go.Proofs.Ytmecghjnghhhkaa
open Go.RowKit

mutual
theorem T.same_self : ∀ t : T, T.same t t = true
  | .mk k n s l => by simp [T.same, T.sameL_self l]
theorem T.sameL_self : ∀ l : List T, T.sameL l l = true
  | [] => by simp [T.sameL]
  | x :: xs => by simp [T.sameL, T.same_self x, T.sameL_self xs]
end

end Go.Proofs.Ytmecghjnghhhkaa

namespace Go.Proofs.Ytmecghjnghhhkaa
open Go.RowKit Go.Maps Go.Lib

theorem map_lookup_formed {l : List Bd} {t : T} (h : bindsErr l = 0) (ht : t.formed = true) : (T.map (lookupT l) t).formed = true :=
  formed_mapped _ (lookup_formed (bindsErr_zero h).1) t ht
/-- What is composed: as a substitution, and its list is one. -/
theorem comp_list {s u l : List Bd} (hs : bindsErr s = 0) (hu : bindsErr u = 0) (h : IsBinds (compM s u) l) : ListOf (fun n => T.map (lookupT u) (lookupT s n)) l := by
  have h1 := h.total
  rw [show (fun n => (compM s u n).getD (varT n)) = fun n => T.map (lookupT u) (lookupT s n) from funext fun n => compM_get (bindsErr_zero hs).2 (bindsErr_zero hu).2 n] at h1
  exact h1
theorem comp_apply {s u l : List Bd} (hs : bindsErr s = 0) (hu : bindsErr u = 0) (h : IsBinds (compM s u) l) (t : T) : T.map (lookupT l) t = T.map (lookupT u) (T.map (lookupT s) t) := by
  rw [(comp_list hs hu h).lookup, T.map_map]
theorem comp_assoc {s u v su uv a b : List Bd} (hs : bindsErr s = 0) (hu : bindsErr u = 0) (hv : bindsErr v = 0) (h1 : IsBinds (compM s u) su) (h2 : IsBinds (compM u v) uv) (h3 : IsBinds (compM su v) a) (h4 : IsBinds (compM s uv) b) : seeBds a = seeBds b := by
  have k1 := comp_list hs hu h1
  have k2 := comp_list hu hv h2
  have k3 := comp_list k1.err hv h3
  have k4 := comp_list hs k2.err h4
  rw [k1.lookup] at k3
  rw [k2.lookup] at k4
  refine ListOf.uniq k3 (?_ : ListOf _ b)
  rw [show (fun n => T.map (lookupT v) (T.map (lookupT u) (lookupT s n))) = fun n => T.map (fun m => T.map (lookupT v) (lookupT u m)) (lookupT s n) from funext fun n => T.map_map _ _ _]
  exact k4
theorem IsAll.err {g : Int → Option T} {l : List Bd} (h : IsAll g l) : bindsErr l = 0 := by
  rw [bindsErr, if_pos (List.all_eq_true.2 fun y hy => (h.2.2 y hy).1), if_pos h.1]
theorem IsAll.lookup {g : Int → Option T} {l : List Bd} (h : IsAll g l) (n : Int) : lookupT l n = Got g n := by
  by_cases hn : ∃ y ∈ l, y.v = n
  · obtain ⟨y, hy, rfl⟩ := hn
    rw [lookup_mem (asc_pairwise h.1) hy, Got, (h.2.1 y.v y.t.erase).1 ⟨y, hy, rfl, rfl⟩]
    rfl
  · rw [lookup_none fun y hy e => hn ⟨y, hy, e⟩, Got]
    cases hf : g n with
    | none => rfl
    | some t =>
      obtain ⟨y, hy, h1, _⟩ := (h.2.1 n t).2 hf
      exact absurd ⟨y, hy, h1⟩ hn
/-- Match of what is an instance: it is, and the match applied gives it. -/
theorem RetMatch.acts {B : Nat} {p t : T} {θ : Int → T} {w w' : World} {e : Ending} (hp : p.formed = true) (ht : t.formed = true) (hθ : T.map θ p = t) (h : RetMatch B p t w e w') :
    ∃ (pp : Option Addr) (c : Nat) (l : List Bd) (x : Int), e = .returned (.tuple #[.slice pp l.length c, .bool true, .int .i64 x]) ∧ (Bds.mk pp c l).In w' ∧ bindsErr l = 0 ∧ T.map (lookupT l) p = t ∧ Gr w w' := by
  obtain ⟨pp, c, l, b, rfl, hin, -, g, hc⟩ := h
  obtain ⟨f, hf⟩ := Option.isSome_iff_exists.1 ((mat_iff hp ht).2 ⟨θ, hθ⟩)
  rcases hc with ⟨-, -, hn⟩ | ⟨rfl, -, f', hf', hall⟩
  · rw [hn (by rw [hp, ht]; rfl)] at hf; cases hf
  · refine ⟨pp, c, l, _, rfl, hin, hall.err, ?_, g⟩
    rw [show lookupT l = Got f' from funext hall.lookup]
    exact (mat_some p t (fun _ => none) f' hp ht (fun _ _ h => by cases h) hf').2.1
end Go.Proofs.Ytmecghjnghhhkaa

namespace Go.Proofs.Ytmecghjnghhhkaa
open Go.RowKit Go.Maps Go.Lib

set_option maxHeartbeats 200000 in
set_option maxRecDepth 100000 in
theorem compose_calls (p q : Option Addr) (c d : Nat) (s u : List Bd) (w : World) (hs : (Bds.mk p c s).In w) (hu : (Bds.mk q d u).In w) :
    Calls Try.prog 41 #[.slice p s.length c, .slice q u.length d] w (RetComp s u w) := by
  have HS := Lib.hid hs
  have HU := Lib.hid hu
  have hsl := hs.2.1.1
  have hul := hu.2.1.1
  simp only at hsl hul
  have hR : Hid (∀ e : Int, compErr s u = e → e ≠ 0 → ∀ w', Gr w w' → RetComp s u w (.returned (.tuple #[.slice none 0 0, .int .i64 e])) w') := fun e he h0 w' hg => comp_err he h0 hg
  have hR2 : Hid (∀ e w1 w', Gr w w1 → compErr s u = 0 → ∀ p c l, e = .returned (.tuple #[.slice p l.length c, .int .i64 0]) → (Bds.mk p c l).In w' → IsBinds (compM s u) l → Gr w1 w' → RetComp s u w e w') := fun e w1 w' h1 h2 p c l h3 h4 h5 h6 => ⟨p, c, l, by rw [h2]; exact h3, h4, h1.trans h6, fun h => absurd h2 h, fun _ => h5⟩
  have hE : Hid (∀ a b, bindsErr s = a → bindsErr u = b → compErr s u = if a = 2 ∨ b = 2 then 2 else if a ≠ 0 ∨ b ≠ 0 then 1 else 0) := fun a b h1 h2 => by rw [compErr, h1, h2]
  have hcs := checkBinds_calls p c s w hs
  have hcu : ∀ w', Gr w w' → Calls Try.prog 103 #[.slice q u.length d] w' (Ret (.int .i64 (bindsErr u)) w') := fun w' g => checkBinds_calls q d u w' (HU.out.mono g)
  generalize hes : bindsErr s = a at hcs
  generalize heu : bindsErr u = b at hcu
  have HE := Lib.hid (hE.out a b hes heu)
  have Hes := Lib.hid hes
  have Heu := Lib.hid heu
  clear hs hu hes heu hE
  generalize hQ : RetComp s u w = Q at hR hR2 ⊢
  clear hQ
  have Hcs := Lib.hid hcs
  have Hcu := Lib.hid hcu
  clear hcs hcu
  go_enter Try.func41, Try.ntmps41
  try simp only [List.append_eq, List.cons_append, List.nil_append]
  go_upto_region 1 with fail
  go_wp2_with fail
  refine (Hcs.out).mono ?_
  rintro e w1 ⟨rfl, g1⟩
  go_wp2_with fail
  refine (Hcu.out w1 g1).mono ?_
  rintro e w2 ⟨rfl, g2⟩
  have g02 : Gr w w2 := Below.trans g1 (Below.mono g2 g1.size)
  have hmm := @run_makeMap Try.prog
  have h3 := bindsErr_cases3 s
  have h4 := bindsErr_cases3 u
  rw [Hes.out] at h3
  rw [Heu.out] at h4
  go_upto_region 2 with fail
  rcases h3 with rfl | rfl | rfl <;> rcases h4 with rfl | rfl | rfl
  case inl.inl =>
    go_upto_region 7 with fail
    have Hzs := Lib.hid (bindsErr_zero Hes.out)
    have Hzu := Lib.hid (bindsErr_zero Heu.out)
    have HE0 := Lib.hid (show compErr s u = 0 from HE.out.trans (by decide))
    have hM := TMap.made (fun x => w2.heap.size < x) w2
    have gA : Gr w (w2.alloc (.map #[] 0)) := Below.trans g02 (Below.mono (show Gr w2 _ by go_grown) g02.size)
    have hA : w2.heap.size < (w2.alloc (.map #[] 0)).heap.size := by simp
    have hwM : w.heap.size ≤ w2.heap.size := g02.size
    generalize w2.alloc (.map #[] 0) = wA at *
    generalize w2.heap.size = M at *
    have HM := Lib.hid hM
    clear hM hmm g1 g2 g02
    go_wp2_with fail
    go_loopg [34] u.length (fun m i wr => ∃ k : Nat, k ≤ u.length ∧ m = u.length - k ∧ i = .int .i64 k ∧ Gr w wr ∧ M < wr.heap.size ∧ Hid (TMap (fun x => M < x) wr M (putAll (fun y => y.t.erase) (u.take k) (fun _ => none))))
    case atStart => exact ⟨0, Nat.zero_le _, rfl, rfl, gA, hA, HM⟩
    case round =>
      obtain ⟨k, hk, rfl, rfl, gr, hMr, hmap⟩ := hrel
      by_cases hlt : k < u.length
      · obtain ⟨b, o, rfl⟩ := HU.out.ptr (by omega)
        obtain ⟨⟨c0, c1, c2, c3, c4⟩, hti, ⟨hv1, hv2⟩, hbl⟩ := (HU.out.mono gr).elem k hlt
        have Hti := Lib.hid hti
        have Hfy := Lib.hid (formed_at Hzu.out.1 k hlt)
        have Hay := Lib.hid (asc_at Hzu.out.2 k hlt)
        have Hput := Lib.hid (putAll_snoc (fun y => y.t.erase) u (fun _ => none) k hlt)
        clear hti
        generalize u[k] = y at *
        go_upto_region 10 with fail
        have hB := BlkT.new wr 114 (bdCells y)
        have gB : Gr wr (wr.alloc (.cells (bdCells y) 114)) := by go_grown
        simp only [bdCells] at hB gB
        generalize wr.alloc (.cells #[.int .i64 y.v, .int .i64 y.t.k, .int .i64 y.t.n, .string y.t.s, .slice y.t.p y.t.l.length y.t.c] 114) = wB at *
        have HB := Lib.hid hB
        have HtB := Lib.hid (Tm.In_below gB Hti.out)
        have hHl : wr.heap.size < wB.heap.size := HB.out.lt
        have grB : Gr w wB := Below.trans gr (Below.mono gB gr.size)
        have HmB := Lib.hid (hmap.out.kp (C := fun _ => False) (Kp.of_gr gB) id (fun _ _ => id))
        have hMB : M < wB.heap.size := Nat.lt_of_lt_of_le hMr gB.size
        generalize wr.heap.size = H at *
        clear hB c0 c1 c2 c3 c4 gB gr hmap
        have Hyv := Lib.hid (show y.t.val = .agg #[.int .i64 y.t.k, .int .i64 y.t.n, .string y.t.s, .slice y.t.p y.t.l.length y.t.c] from rfl)
        refine wp_region_rely_tail 6 [fx (.map (some M)), fx (.pointer (some ⟨H, 0, none⟩)), fx (.int .i64 y.v), fx (.pointer (some ⟨H, 1, none⟩)), fx y.t.val, tmIs (wB.heap.size ≤ ·) y.t.erase]
          (by kernel_rfl) (by kernel_rfl) (by decide) (by repeat (first | exact Stable.nil | refine Stable.fix ?_ | refine Stable.cons tmIs_stable ?_)) ?_ ?_
        · refine ⟨?_, ?_, ?_, ?_, ?_, ?a5, trivial⟩
          all_goals
            intro a wz hg hold
            have h8 : a.tmps[8]?.getD undef = .map (some M) := hold 8 rfl
            have h10 : a.tmps[10]?.getD undef = .pointer (some ⟨H, 0, none⟩) := hold 10 rfl
            clear hold
            have z0 := Gr.at hg (HB.out.cell 0 (v := .int .i64 y.v) rfl)
            have z1 := Gr.at hg (HB.out.cell 1 (v := .int .i64 y.t.k) rfl)
            have z2 := Gr.at hg (HB.out.cell 2 (v := .int .i64 y.t.n) rfl)
            have z3 := Gr.at hg (HB.out.cell 3 (v := .string y.t.s) rfl)
            have z4 := Gr.at hg (HB.out.cell 4 (v := .slice y.t.p y.t.l.length y.t.c) rfl)
            simp [predsImp, Region.binds, dstAt, fx]
            intros
            first
              | (rw [if_pos (by simp [*])]
                 intro K hK)
              | (rename_i K hK)
            go_simp
          case a5 =>
            refine (copy_calls (t := y.t) (Tm.In_below hg HtB.out) Hfy.out).mono ?_
            rintro e w10 ⟨z, i1, i2, rfl, ib, i3⟩
            exact hK _ _ ⟨z, rfl, i1, i2, i3.mono fun b hb => Nat.le_trans hg.size hb⟩ ib
          all_goals exact hK _ _ rfl (Gr.rfl' _)
        · intro wz hg
          rintro _ rfl _ rfl _ rfl _ rfl _ rfl _ ⟨z, rfl, i1, i2, i3⟩
          simp only [finAll, Act.put, List.setIfInBounds_toArray, List.set_cons_succ, List.set_cons_zero, List.drop_succ_cons, List.drop_zero, List.take_zero]
          obtain ⟨w5, hup, hm5, hg5⟩ := (HmB.out.kp (C := fun _ => False) (Kp.of_gr hg) id (fun _ _ => id)).store (fun x hx => Nat.ne_of_gt hx) Hay.out i1 (by rw [i2]; exact Hfy.out) (i3.mono fun x hx => Nat.lt_of_lt_of_le hMB hx)
          have gr5 : Gr w w5 := Below.trans (Below.trans grB (Below.mono hg grB.size)) ((Kp.of_grownBy (C := (· = M)) hg5 rfl).below (fun x hx => by omega) (by have := hg.size; have := grB.size; omega))
          have hM5 : M < w5.heap.size := Nat.lt_of_lt_of_le hMB (Nat.le_trans hg.size hg5.size)
          rw [i2] at hm5
          have Hm5 := Lib.hid hm5
          clear hm5
          go_wp2_with fail
          go_roundg (u.length - (k + 1))
          case measure => omega
          case rel => exact ⟨k + 1, by omega, rfl, by go_num, gr5, hM5, by show TMap _ _ _ _; rw [Hput.out]; exact Hm5.out⟩
      · obtain rfl : k = u.length := by omega
        have hmU := hmap.out
        rw [List.take_length] at hmU
        have HmU := Lib.hid hmU
        clear hmU hmap
        generalize hfU : putAll (fun y => y.t.erase) u (fun _ => none) = fU at *
        have HC := Lib.hid (show compM s u = putAll (fun y => T.map (lookupT u) y.t.erase) s fU by rw [compM, hfU])
        clear hfU
        go_wp2_with fail
        go_loopg [47] s.length (fun m i wx => ∃ k : Nat, k ≤ s.length ∧ m = s.length - k ∧ i = .int .i64 k ∧ Gr w wx ∧ M < wx.heap.size ∧ Hid (TMap (fun x => M < x) wx M (putAll (fun y => T.map (lookupT u) y.t.erase) (s.take k) fU)))
        case atStart => exact ⟨0, Nat.zero_le _, rfl, rfl, gr, hMr, HmU⟩
        case round =>
          clear gr hMr HmU hlt
          obtain ⟨k, hk, rfl, rfl, gr, hMr, hmap⟩ := hrel
          by_cases hlt : k < s.length
          · obtain ⟨b, o, rfl⟩ := HS.out.ptr (by omega)
            obtain ⟨⟨c0, c1, c2, c3, c4⟩, hti, ⟨hv1, hv2⟩, hbl⟩ := (HS.out.mono gr).elem k hlt
            have Htj := Lib.hid hti
            have Hfy := Lib.hid (formed_at Hzs.out.1 k hlt)
            have Hay := Lib.hid (asc_at Hzs.out.2 k hlt)
            have Hput := Lib.hid (putAll_snoc (fun y => T.map (lookupT u) y.t.erase) s fU k hlt)
            clear hti
            generalize s[k] = y at *
            go_upto_region 15 with fail
            have hB := BlkT.new wr 114 (bdCells y)
            have gB : Gr wr (wr.alloc (.cells (bdCells y) 114)) := by go_grown
            simp only [bdCells] at hB gB
            generalize wr.alloc (.cells #[.int .i64 y.v, .int .i64 y.t.k, .int .i64 y.t.n, .string y.t.s, .slice y.t.p y.t.l.length y.t.c] 114) = wB at *
            have HB := Lib.hid hB
            have HtB := Lib.hid (Tm.In_below gB Htj.out)
            have hHl : wr.heap.size < wB.heap.size := HB.out.lt
            have grB : Gr w wB := Below.trans gr (Below.mono gB gr.size)
            have HmB := Lib.hid (hmap.out.kp (C := fun _ => False) (Kp.of_gr gB) id (fun _ _ => id))
            have hMB : M < wB.heap.size := Nat.lt_of_lt_of_le hMr gB.size
            generalize wr.heap.size = H at *
            clear hB c0 c1 c2 c3 c4 gB gr hmap
            have Hyv := Lib.hid (show y.t.val = .agg #[.int .i64 y.t.k, .int .i64 y.t.n, .string y.t.s, .slice y.t.p y.t.l.length y.t.c] from rfl)
            refine wp_region_rely_tail 7 [fx (.map (some M)), fx (.pointer (some ⟨H, 0, none⟩)), fx (.int .i64 y.v), fx (.pointer (some ⟨H, 1, none⟩)), fx y.t.val, fx (.slice q u.length d), tmIs (wB.heap.size ≤ ·) (T.map (lookupT u) y.t.erase)]
              (by kernel_rfl) (by kernel_rfl) (by decide) (by repeat (first | exact Stable.nil | refine Stable.fix ?_ | refine Stable.cons tmIs_stable ?_)) ?_ ?_
            · refine ⟨?_, ?_, ?_, ?_, ?_, ?_, ?a5, trivial⟩
              all_goals
                intro a wz hg hold
                have h8 : a.tmps[8]?.getD undef = .map (some M) := hold 8 rfl
                have h1 : a.tmps[1]?.getD undef = .slice q u.length d := hold 1 rfl
                have h12 : a.tmps[12]?.getD undef = .pointer (some ⟨H, 0, none⟩) := hold 12 rfl
                clear hold
                have z0 := Gr.at hg (HB.out.cell 0 (v := .int .i64 y.v) rfl)
                have z1 := Gr.at hg (HB.out.cell 1 (v := .int .i64 y.t.k) rfl)
                have z2 := Gr.at hg (HB.out.cell 2 (v := .int .i64 y.t.n) rfl)
                have z3 := Gr.at hg (HB.out.cell 3 (v := .string y.t.s) rfl)
                have z4 := Gr.at hg (HB.out.cell 4 (v := .slice y.t.p y.t.l.length y.t.c) rfl)
                simp [predsImp, Region.binds, dstAt, fx]
                intros
                first
                  | (rw [if_pos (by simp [*])]
                     intro K hK)
                  | (rename_i K hK)
                go_simp
              case a5 =>
                refine (applied_calls y.t q d u wz (Tm.In_below hg HtB.out) Hfy.out (HU.out.mono (Below.trans grB (Below.mono hg grB.size))) Hzu.out.2 Hzu.out.1).mono ?_
                rintro e w10 ⟨z, i1, i2, rfl, ib, i3⟩
                exact hK _ _ ⟨z, rfl, i1, i2, i3.mono fun b hb => Nat.le_trans hg.size hb⟩ ib
              all_goals exact hK _ _ rfl (Gr.rfl' _)
            · intro wz hg
              rintro _ rfl _ rfl _ rfl _ rfl _ rfl _ rfl _ ⟨z, rfl, i1, i2, i3⟩
              simp only [finAll, Act.put, List.setIfInBounds_toArray, List.set_cons_succ, List.set_cons_zero, List.drop_succ_cons, List.drop_zero, List.take_zero]
              obtain ⟨w5, hup, hm5, hg5⟩ := (HmB.out.kp (C := fun _ => False) (Kp.of_gr hg) id (fun _ _ => id)).store (fun x hx => Nat.ne_of_gt hx) Hay.out i1 (by rw [i2]; exact formed_mapped _ (lookup_formed Hzu.out.1) _ Hfy.out) (i3.mono fun x hx => Nat.lt_of_lt_of_le hMB hx)
              have gr5 : Gr w w5 := Below.trans (Below.trans grB (Below.mono hg grB.size)) ((Kp.of_grownBy (C := (· = M)) hg5 rfl).below (fun x hx => by omega) (by have := hg.size; have := grB.size; omega))
              have hM5 : M < w5.heap.size := Nat.lt_of_lt_of_le hMB (Nat.le_trans hg.size hg5.size)
              rw [i2] at hm5
              have Hm5 := Lib.hid hm5
              clear hm5
              go_wp2_with fail
              go_roundg (s.length - (k + 1))
              case measure => omega
              case rel => exact ⟨k + 1, by omega, rfl, by go_num, gr5, hM5, by show TMap _ _ _ _; rw [Hput.out]; exact Hm5.out⟩
          · obtain rfl : k = s.length := by omega
            have hmS := hmap.out
            rw [List.take_length, ← HC.out] at hmS
            have HmS := Lib.hid hmS
            clear hmS hmap
            go_wp2_with (first
              | (go_at_call 105; refine (binds_calls M (compM s u) _ HmS.out).mono ?_; rintro e w6 ⟨p6, c6, l6, rfl, h6, hi6, _, g6⟩; have HI6 := Lib.hid (And.intro h6 hi6); clear h6 hi6)
              | fail)
            exact hR2.out _ _ _ gr HE0.out p6 c6 l6 rfl HI6.out.1 HI6.out.2 g6
  all_goals
    go_wp2_with fail
    exact hR.out _ (HE.out.trans (by decide)) (by decide) _ g02
end Go.Proofs.Ytmecghjnghhhkaa
