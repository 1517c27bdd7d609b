/-
  hornref.Put: a term put at a place.
-/
import Derived.Test.YtcblmkhhhibddaaTS30
import Derived.Test.YtcblmkhhhibddaaTS04
import Derived.Test.YtcblmkhhhibddaaTS17
namespace Go.Proofs.Ytcblmkhhhibddaa
open Go.RowKit Go.Maps Go.Lib

def rputOf (L : List Int) : Prop := ∀ (S : Nat → Prop) (t u : Tm) (p : Option Addr) (c : Nat) (w : World), t.In w → u.In w → t.On S → u.On S → (∀ b, S b → b < w.heap.size) → IntSl w p c L → (Tm.at t L).isSome = true →
  Calls Try.prog 108 #[t.val, .slice p L.length c, u.val] w (RetTm (fun b => S b ∨ w.heap.size ≤ b) (T.put t.erase L u.erase) w)

set_option maxHeartbeats 1000000 in
set_option maxRecDepth 100000 in
theorem rput_nil : rputOf [] := by
  intro S t u p c w it iu ot ou hS hL _
  have Iu := Lib.hid iu
  have Ou := Lib.hid ou
  have HS := Lib.hid hS
  have hR : Hid (∀ w', u.In w' → Gr w w' → RetTm (fun b => S b ∨ w.heap.size ≤ b) (T.put t.erase [] u.erase) w (.returned (.agg #[.int .i64 u.k, .int .i64 u.n, .string u.s, .slice u.p u.l.length u.c])) w') := fun w' h1 h => ⟨u, h1, by rw [T.put], rfl, h, ou.mono fun b hb => .inl hb⟩
  generalize RetTm (fun b => S b ∨ w.heap.size ≤ b) (T.put t.erase [] u.erase) w = Q at hR ⊢
  clear it iu ot ou hS hL
  rw [show t.val = .agg #[.int .i64 t.k, .int .i64 t.n, .string t.s, .slice t.p t.l.length t.c] from rfl, show u.val = .agg #[.int .i64 u.k, .int .i64 u.n, .string u.s, .slice u.p u.l.length u.c] from rfl]
  go_enter Try.func108, Try.ntmps108
  try simp only [List.append_eq, List.cons_append, List.nil_append]
  go_upto_region 1 with fail
  obtain ⟨h3, h4, h5, gA⟩ := three_blocks w (.int .i64 t.k) (.int .i64 t.n) (.string t.s) (.slice t.p t.l.length t.c) (.int .i64 u.k) (.int .i64 u.n) (.string u.s) (.slice u.p u.l.length u.c) (.int .i64 0) (.int .i64 0) (.string ⟨#[]⟩) (.slice none 0 0)
  generalize (((w.alloc (.cells #[.int .i64 t.k, .int .i64 t.n, .string t.s, .slice t.p t.l.length t.c] 25)).alloc (.cells #[.int .i64 u.k, .int .i64 u.n, .string u.s, .slice u.p u.l.length u.c] 25)).alloc (.cells #[.int .i64 0, .int .i64 0, .string ⟨#[]⟩, .slice none 0 0] 25)) = wA at *
  obtain ⟨⟨x0, x1, x2, x3⟩, _, _⟩ := h4.out.parts
  obtain ⟨⟨z0, z1, z2, z3⟩, ⟨r0, r1, r2, r3⟩, _⟩ := h5.out.parts
  have kk := Kp.sets (C := (· = w.heap.size + 2)) (w := wA) (b := w.heap.size + 2) rfl (.int .i64 u.k) (.int .i64 u.n) (.string u.s) (.slice u.p u.l.length u.c)
  have Hb := Lib.hid (hR.out _ (kp_in (Tm.In_below gA Iu.out) Ou.out (fun b hb e => by have := HS.out b hb; omega) kk) (Below.trans gA (kk.below (B := w.heap.size) (fun b hb => by omega) gA.size)))
  clear kk
  go_wp2_with fail
  exact bodyPost_ret (v := .agg #[.int .i64 u.k, .int .i64 u.n, .string u.s, .slice u.p u.l.length u.c]) (by simp (maxDischargeDepth := 9) [results, Try.results108, go_sem, z0, z1, z2, z3]) rfl Hb.out
/-- A new slice of one term. -/
def oneNewT (B0 : Nat) (S : Nat → Prop) (t : T) : VP := fun v w => ∃ (B : Nat) (y : Tm), v = .slice (some ⟨B, 0, none⟩) 1 1 ∧ B0 ≤ B ∧ Blk4 w B (.int .i64 y.k) (.int .i64 y.n) (.string y.s) (.slice y.p y.l.length y.c) ∧ y.In w ∧ y.erase = t ∧ y.On S
theorem oneNewT_stable {B0 : Nat} {S : Nat → Prop} {t : T} : ∀ v w w', oneNewT B0 S t v w → Gr w w' → oneNewT B0 S t v w' := fun _ _ _ ⟨B, y, h1, h2, h3, h4, h5⟩ hg => ⟨B, y, h1, h2, h3.gr hg, Tm.In_below hg h4, h5⟩
theorem take_set_step {M : List T} {k : Nat} (h : k < M.length) : M.take (k + 1) = M.take k ++ [M[k]] := by
  rw [List.take_add_one, List.getElem?_eq_getElem h]; rfl

set_option maxHeartbeats 4000000 in
set_option maxRecDepth 100000 in
theorem rput_cons (n : Int) (L : List Int) (ih : rputOf L) : rputOf (n :: L) := by
  intro S t u p c w it iu ot ou hS hL hsome
  have hLc := hL.1
  have hLc2 := hL.2.1
  have hni : In64 n := hL.2.2.1 n (List.mem_cons_self ..)
  obtain ⟨b0, o0, rfl, hbl, hcells⟩ := hL.ptr (by simp)
  have hc := hcells 0 n rfl
  rw [Nat.add_zero] at hc
  obtain ⟨pq, hpq⟩ : ∃ pq : Option Addr, (if c = 1 then some ⟨b0, o0, none⟩ else some ⟨b0, o0 + 1, none⟩) = pq := ⟨_, rfl⟩
  have hL2 : IntSl w pq (c - 1) L := ⟨by simp at hLc; omega, by omega, fun x hx => hL.2.2.1 x (List.mem_cons_of_mem _ hx), by
    by_cases hc1 : c = 1
    · exact .inl (List.eq_nil_of_length_eq_zero (by simp at hLc; omega))
    · rw [if_neg hc1] at hpq
      exact .inr ⟨b0, o0 + 1, hpq.symm, hbl, fun i x hx => by
        have := hcells (i + 1) x (by simpa using hx)
        rwa [show o0 + 1 + i = o0 + (i + 1) by omega]⟩⟩
  have HL2 := Lib.hid hL2
  have hin : 0 ≤ n ∧ n < t.l.length := Classical.byContradiction fun h => by rw [tmat_out h] at hsome; cases hsome
  obtain ⟨hn0, hn1⟩ := hin
  obtain ⟨j, rfl⟩ : ∃ j : Nat, n = j := ⟨n.toNat, by omega⟩
  have hnl : j < t.l.length := by omega
  rw [tmat_step hnl] at hsome
  obtain ⟨k0, n0, s, p0, c0, l⟩ := t
  simp only [Tm.l] at hnl hsome hn1
  have hM : ∃ M : List T, M = (Tm.eraseL l).set j (T.put l[j].erase L u.erase) := ⟨_, rfl⟩
  obtain ⟨M, hM⟩ := hM
  have hMl : M.length = l.length := by rw [hM, List.length_set, Tm.eraseL_length]
  have hMj : ∀ h : j < M.length, M[j] = T.put l[j].erase L u.erase := fun h => by simp [hM]
  have hMo : ∀ (i : Nat) (h : i < M.length) (h' : i < l.length), i ≠ j → M[i] = l[i].erase := fun i h h' hij => by
    simp only [hM, List.getElem_set_ne (Ne.symm hij)]
    exact eraseL_nth l i _ h'
  have hput : T.put (Tm.mk k0 n0 s p0 c0 l).erase ((j : Int) :: L) u.erase = .mk k0 n0 s.toList M := by
    rw [Tm.erase, T.put, Int.toNat_natCast, eraseL_map, List.getElem?_map, List.getElem?_eq_getElem hnl, hM, eraseL_map]
    rfl
  rw [hput]
  have Iu := Lib.hid iu
  have Ou := Lib.hid ou
  have HS := Lib.hid hS
  have Hih := Lib.hid ih
  have Hsome := Lib.hid hsome
  have HMl := Lib.hid hMl
  have HMj := Lib.hid hMj
  have HMo := Lib.hid hMo
  have HSl := Lib.hid it.sl
  have Hon : Hid (∀ (i : Nat) (h : i < l.length), l[i].On S) := fun i h => by
    rw [Tm.On] at ot
    exact Tm.OnL_mem ot.2 _ (List.getElem_mem h)
  have hlc := it.sl.1
  have hlb := it.sl.2.1
  have hI0 := it
  rw [Tm.In] at hI0
  have Hk := Lib.hid hI0.1
  have Hn := Lib.hid hI0.2.1
  have Hs := Lib.hid hI0.2.2.1
  have hR : Hid (∀ (g : Tm) w', g.In w' → g.erase = .mk k0 n0 s.toList M → Gr w w' → g.On (fun b => S b ∨ w.heap.size ≤ b) → RetTm (fun b => S b ∨ w.heap.size ≤ b) (.mk k0 n0 s.toList M) w (.returned g.val) w') := fun g w' h1 h2 h3 h4 => ⟨g, h1, h2, rfl, h3, h4⟩
  generalize RetTm (fun b => S b ∨ w.heap.size ≤ b) (.mk k0 n0 s.toList M) w = Q at hR ⊢
  clear it iu ot ou hS hL hL2 ih hsome hMl hMj hMo hM hput hI0 hcells
  rw [show (Tm.mk k0 n0 s p0 c0 l).val = .agg #[.int .i64 k0, .int .i64 n0, .string s, .slice p0 l.length c0] from rfl, show u.val = .agg #[.int .i64 u.k, .int .i64 u.n, .string u.s, .slice u.p u.l.length u.c] from rfl, List.length_cons]
  rw [List.length_cons] at hLc
  go_enter Try.func108, Try.ntmps108
  try simp only [List.append_eq, List.cons_append, List.nil_append]
  go_upto_region 1 with fail
  obtain ⟨h3, h4, h5, gA⟩ := three_blocks w (.int .i64 k0) (.int .i64 n0) (.string s) (.slice p0 l.length c0) (.int .i64 u.k) (.int .i64 u.n) (.string u.s) (.slice u.p u.l.length u.c) (.int .i64 0) (.int .i64 0) (.string ⟨#[]⟩) (.slice none 0 0)
  have sA : (((w.alloc (.cells #[.int .i64 k0, .int .i64 n0, .string s, .slice p0 l.length c0] 25)).alloc (.cells #[.int .i64 u.k, .int .i64 u.n, .string u.s, .slice u.p u.l.length u.c] 25)).alloc (.cells #[.int .i64 0, .int .i64 0, .string ⟨#[]⟩, .slice none 0 0] 25)).heap.size = w.heap.size + 3 := by simp
  generalize (((w.alloc (.cells #[.int .i64 k0, .int .i64 n0, .string s, .slice p0 l.length c0] 25)).alloc (.cells #[.int .i64 u.k, .int .i64 u.n, .string u.s, .slice u.p u.l.length u.c] 25)).alloc (.cells #[.int .i64 0, .int .i64 0, .string ⟨#[]⟩, .slice none 0 0] 25)) = wA at *
  have SA := Lib.hid sA
  clear sA
  go_wp2_with fail
  go_loopg [7, 8] l.length (fun m v0 i wr => ∃ (k : Nat) (v : Value), v = v0 ∧ k ≤ l.length ∧ m = l.length - k ∧ i = .int .i64 k ∧
    Hid (∃ lm : List Tm, lm.length = k ∧ Tm.eraseL lm = M.take k ∧ Built wr (w.heap.size + 3) S v lm) ∧
    Hid (Blk4 wr w.heap.size (.int .i64 k0) (.int .i64 n0) (.string s) (.slice p0 l.length c0) ∧ Blk4 wr (w.heap.size + 1) (.int .i64 u.k) (.int .i64 u.n) (.string u.s) (.slice u.p u.l.length u.c) ∧ Blk4 wr (w.heap.size + 2) (.int .i64 0) (.int .i64 0) (.string ⟨#[]⟩) (.slice none 0 0)) ∧ Gr w wr ∧ w.heap.size + 3 ≤ wr.heap.size)
  case atStart => exact ⟨0, _, rfl, Nat.zero_le _, rfl, rfl, ⟨[], rfl, by rw [Tm.eraseL, List.take_zero], Built.nil _ _ _⟩, ⟨h3.out, h4.out, h5.out⟩, gA, by have := SA.out; omega⟩
  case round =>
    obtain ⟨k, v, rfl, hk, rfl, rfl, hlm, hbb, gr, hws⟩ := hrel
    obtain ⟨⟨x0, x1, x2, x3⟩, ⟨e0, e1, e2, e3⟩, _⟩ := hbb.out.1.parts
    obtain ⟨⟨y0, y1, y2, y3⟩, _, _⟩ := hbb.out.2.1.parts
    by_cases hlt : k < l.length
    · obtain ⟨b, o, rfl⟩ := HSl.out.ptr (by omega)
      obtain ⟨⟨a0, a1, a2, a3⟩, hxi, _⟩ := (HSl.out.mono gr).elem k hlt
      obtain ⟨lm, hl0, he0, hF⟩ := hlm.out
      have hkM : k < M.length := by have := HMl.out; omega
      have hst := take_set_step hkM
      have hcr := Gr.at gr hc
      have HF := Lib.hid hF
      have Hvf := Lib.hid hF.1.lt
      have He0 := Lib.hid he0
      clear hF he0 hlm
      by_cases hkj : k = j
      · subst hkj
        have hkj' : ((k : Int) == (k : Int)) = true := by simp
        have hMk := HMj.out hkM
        have Hc := Lib.hid (fun (w' : World) (g : Gr wr w') => Hih.out S l[k] u pq (c - 1) w' (Tm.In_below g hxi) (Tm.In_below (gr.trans g) Iu.out) (Hon.out k hlt) Ou.out (fun b hb => by have := HS.out b hb; have := (gr.trans g).size; omega) (HL2.out.mono (gr.trans g)) Hsome.out)
        rw [hMk] at hst
        have Hst := Lib.hid hst
        clear hxi hst hMk
        generalize l[k] = x at *
        rw [show x.val = .agg #[.int .i64 x.k, .int .i64 x.n, .string x.s, .slice x.p x.l.length x.c] from rfl, show u.val = .agg #[.int .i64 u.k, .int .i64 u.n, .string u.s, .slice u.p u.l.length u.c] from rfl] at Hc
        have hL1 : (1 : Int) ≤ (L.length : Int) + 1 := by omega
        go_upto_region 8 with fail
        refine wp_region_rely_tail 11 [fx v, fx (.pointer (some ⟨w.heap.size, 3, none⟩)), fx (.slice (some ⟨b, o, none⟩) l.length c0), fx (.int .i64 k), fx (.pointer (some ⟨b, o + k * 4, none⟩)), fx (.agg #[.int .i64 x.k, .int .i64 x.n, .string x.s, .slice x.p x.l.length x.c]), fx (.slice (some ⟨b0, o0, none⟩) (L.length + 1) c), fx (.slice pq L.length (c - 1)), fx (.agg #[.int .i64 u.k, .int .i64 u.n, .string u.s, .slice u.p u.l.length u.c]), tmIs (fun b => S b ∨ wr.heap.size ≤ b) (T.put x.erase L u.erase), oneNewT wr.heap.size (fun b => S b ∨ wr.heap.size ≤ b) (T.put x.erase L u.erase)]
          (by kernel_rfl) (by kernel_rfl) (by decide) (by repeat (first | exact Stable.nil | refine Stable.fix ?_ | refine Stable.cons tmIs_stable ?_ | refine Stable.cons oneNewT_stable ?_)) ?_ ?_
        · refine ⟨?_, ?_, ?_, ?_, ?_, ?_, ?_, ?_, ?_, ?a9, ?a10, trivial⟩
          case a9 =>
            intro a wz hg hold
            have h1 : a.tmps[1]?.getD undef = .slice (some ⟨b0, o0, none⟩) (L.length + 1) c := hold 1 rfl
            have h3' : a.tmps[3]?.getD undef = .pointer (some ⟨w.heap.size, 0, none⟩) := hold 3 rfl
            have h5' : a.tmps[5]?.getD undef = .pointer (some ⟨w.heap.size + 1, 0, none⟩) := hold 5 rfl
            have h7 : a.tmps[7]?.getD undef = v := hold 7 rfl
            have h8 : a.tmps[8]?.getD undef = .int .i64 k := hold 8 rfl
            have za0 := Gr.at hg a0
            have za1 := Gr.at hg a1
            have za2 := Gr.at hg a2
            have za3 := Gr.at hg a3
            have zx3 := Gr.at hg x3
            have zy0 := Gr.at hg y0
            have zy1 := Gr.at hg y1
            have zy2 := Gr.at hg y2
            have zy3 := Gr.at hg y3
            have zhcr := Gr.at hg hcr
            have Hg := Lib.hid hg
            clear hold a0 a1 a2 a3 x3 y0 y1 y2 y3 hcr
            have Hcc := Lib.hid (Hc.out wz Hg.out)
            simp [predsImp, Region.binds, dstAt, fx]
            intros
            rename_i K hK
            go_simp
            refine Hcc.out.mono ?_
            rintro e w9 ⟨bm, i1, i2, rfl, ib, i3⟩
            exact hK _ _ ⟨bm, rfl, i1, i2, i3.mono fun b hb => hb.imp id fun h => Nat.le_trans Hg.out.size h⟩ ib
          case a10 =>
            intro a wz hg hold
            have h1 : a.tmps[1]?.getD undef = .slice (some ⟨b0, o0, none⟩) (L.length + 1) c := hold 1 rfl
            have h3' : a.tmps[3]?.getD undef = .pointer (some ⟨w.heap.size, 0, none⟩) := hold 3 rfl
            have h5' : a.tmps[5]?.getD undef = .pointer (some ⟨w.heap.size + 1, 0, none⟩) := hold 5 rfl
            have h7 : a.tmps[7]?.getD undef = v := hold 7 rfl
            have h8 : a.tmps[8]?.getD undef = .int .i64 k := hold 8 rfl
            have za0 := Gr.at hg a0
            have za1 := Gr.at hg a1
            have za2 := Gr.at hg a2
            have za3 := Gr.at hg a3
            have zx3 := Gr.at hg x3
            have zy0 := Gr.at hg y0
            have zy1 := Gr.at hg y1
            have zy2 := Gr.at hg y2
            have zy3 := Gr.at hg y3
            have zhcr := Gr.at hg hcr
            have Hg := Lib.hid hg
            clear hold a0 a1 a2 a3 x3 y0 y1 y2 y3 hcr
            simp [predsImp, Region.binds, dstAt]
            rintro ⟨y, hy, i1, i2, i3⟩ K hK
            rw [show y.val = .agg #[.int .i64 y.k, .int .i64 y.n, .string y.s, .slice y.p y.l.length y.c] from rfl] at hy
            go_simp
            exact hK _ _ ⟨_, y, rfl, Hg.out.size, Blk4.new _ _ _ _ _, Tm.In_below (by go_grown) i1, i2, i3⟩ (by go_grown)
          all_goals
            intro a wz hg hold
            have h1 : a.tmps[1]?.getD undef = .slice (some ⟨b0, o0, none⟩) (L.length + 1) c := hold 1 rfl
            have h3' : a.tmps[3]?.getD undef = .pointer (some ⟨w.heap.size, 0, none⟩) := hold 3 rfl
            have h5' : a.tmps[5]?.getD undef = .pointer (some ⟨w.heap.size + 1, 0, none⟩) := hold 5 rfl
            have h7 : a.tmps[7]?.getD undef = v := hold 7 rfl
            have h8 : a.tmps[8]?.getD undef = .int .i64 k := hold 8 rfl
            have za0 := Gr.at hg a0
            have za1 := Gr.at hg a1
            have za2 := Gr.at hg a2
            have za3 := Gr.at hg a3
            have zx3 := Gr.at hg x3
            have zy0 := Gr.at hg y0
            have zy1 := Gr.at hg y1
            have zy2 := Gr.at hg y2
            have zy3 := Gr.at hg y3
            have zhcr := Gr.at hg hcr
            have Hg := Lib.hid hg
            clear hold a0 a1 a2 a3 x3 y0 y1 y2 y3 hcr
            simp [predsImp, Region.binds, dstAt, fx]
            intros
            first
              | (rw [if_pos (by simp [*])]
                 intro K hK)
              | (rename_i K hK)
            go_simp
          all_goals exact hK _ _ rfl (Gr.rfl' _)
        · intro w9 hg
          rintro v rfl _ rfl _ rfl _ rfl _ rfl _ rfl _ rfl _ rfl _ rfl _ ⟨_, rfl, _, _, _⟩ _ ⟨B1, y, rfl, hB1, hblk, i1, i2, i3⟩
          simp only [finAll, Act.put, List.setIfInBounds_toArray, List.set_cons_succ, List.set_cons_zero, List.drop_succ_cons, List.drop_zero, List.take_zero]
          clear x0 x1 x2 x3 e0 e1 e2 e3 y0 y1 y2 y3 a0 a1 a2 a3 hcr
          have hs9 : wr.heap.size ≤ w9.heap.size := hg.size
          obtain ⟨⟨q0, q1, q2, q3⟩, _, _⟩ := hblk.parts
          have hyo : y.On (fun b => (S b ∨ w.heap.size + 3 ≤ b) ∧ v.ownBlock ≠ some b) := i3.mono fun b hb => by
            refine ⟨hb.imp id fun h => by omega, fun e => ?_⟩
            have h1 := Hvf.out b e
            rcases hb with h | h
            · have := HS.out b h; omega
            · omega
          refine wpList_append_term rfl _ _ rfl rfl (w.heap.size + 3) S _ lm y B1 1 (by rfl) (by rfl) (HF.out.gr hg) (by omega) i1 hyo (by omega) q0 q1 q2 q3 ?_
          intro v' w6 hbt hbel _
          have hg6 : Below (w.heap.size + 3) wr w6 := Below.trans (hg.mono hws) hbel
          have hb2 := And.intro (hbb.out.1.below hg6 (by omega)) (And.intro (hbb.out.2.1.below hg6 (by omega)) (hbb.out.2.2.below hg6 (by omega)))
          have HB2 := Lib.hid hb2
          have hes : Tm.eraseL (lm ++ [y]) = M.take (k + 1) := by rw [eraseL_append, He0.out, Hst.out, ← i2]; simp [Tm.eraseL]
          have Hes := Lib.hid hes
          clear hb2 hes i1 i2 i3 hblk q0 q1 q2 q3
          go_wp2_with fail
          go_roundg (l.length - (k + 1))
          case measure => omega
          case rel => exact ⟨k + 1, _, rfl, by omega, rfl, by go_num, ⟨lm ++ [y], by rw [List.length_append, hl0]; rfl, Hes.out, hbt⟩, HB2, Below.trans gr (hg6.mono (by omega)), by have := hg6.size; omega⟩
      · have hMk := HMo.out k hkM hlt hkj
        rw [hMk] at hst
        have Hst := Lib.hid hst
        have Hxi := Lib.hid hxi
        have Hxo := Lib.hid (Hon.out k hlt)
        have hkj' : ((k : Int) == (j : Int)) = false := by simp; omega
        clear hxi hst hMk
        generalize l[k] = x at *
        go_wp2_with
          (at_builtin
           refine wpList_append_term rfl _ _ rfl rfl (w.heap.size + 3) S _ lm x wr.heap.size 1 rfl rfl (HF.out.gr (by go_grown)) (by simp; omega) (Tm.In_below (by go_grown) Hxi.out) (Hxo.out.mono fun b hb => ⟨.inl hb, fun e => by have := Hvf.out b e; have := HS.out b hb; omega⟩) (by omega) (by show _ = some (Value.int .i64 x.k); go_cell) (by show _ = some (Value.int .i64 x.n); go_cell) (by show _ = some (Value.string x.s); go_cell) (by show _ = some (Value.slice x.p x.l.length x.c); go_cell) ?_
           intro v' w6 hbt hbel _)
        have hg6 : Below (w.heap.size + 3) wr w6 := Below.trans (show Below (w.heap.size + 3) wr _ by go_grown) hbel
        have hes : Tm.eraseL (lm ++ [x]) = M.take (k + 1) := by rw [eraseL_append, He0.out, Hst.out]; simp [Tm.eraseL]
        go_roundg (l.length - (k + 1))
        case measure => omega
        case rel => exact ⟨k + 1, _, rfl, by omega, rfl, by go_num, ⟨lm ++ [x], by rw [List.length_append, hl0]; rfl, hes, hbt⟩, ⟨hbb.out.1.below hg6 (by omega), hbb.out.2.1.below hg6 (by omega), hbb.out.2.2.below hg6 (by omega)⟩, Below.trans gr (hg6.mono (by omega)), by have := hg6.size; omega⟩
    · obtain rfl : k = l.length := by omega
      obtain ⟨lm, hl0, he0, hF⟩ := hlm.out
      obtain ⟨pv, cv, rfl, hcv1, hcv2⟩ := hF.form
      have hsl := hF.sl (by rw [hl0]; exact hlb.1)
      have hin : (Tm.mk k0 n0 s pv cv lm).In wr := by
        rw [Tm.In]
        exact ⟨Hk.out, Hn.out, Hs.out, hsl.2.1.1, hsl.2.1.2.1, hsl.2.1.2.2.1, hsl.2.1.2.2.2⟩
      have hon : (Tm.mk k0 n0 s pv cv lm).On (fun b => S b ∨ w.heap.size + 3 ≤ b) := by rw [Tm.On]; exact hsl.2.2
      obtain ⟨⟨z0, z1, z2, z3⟩, ⟨r0, r1, r2, r3⟩, _⟩ := hbb.out.2.2.parts
      have hkp : ∀ W, Kp (fun b => b = w.heap.size ∨ b = w.heap.size + 2) wr W → Q (.returned (Tm.mk k0 n0 s pv cv lm).val) W := fun W hK =>
        hR.out _ W (kp_in hin hon (fun b hb e => by rcases hb with h | h; · have := HS.out b h; omega
                                                    · omega) hK) (by rw [Tm.erase, he0, List.take_of_length_le (by have := HMl.out; omega)]) (Below.trans gr (hK.below (B := w.heap.size) (fun b hb => by omega) gr.size)) (hon.mono fun b hb => hb.imp id fun h => by omega)
      have Hkp := Lib.hid hkp
      clear hkp hin hon hsl hF he0 hlm y0 y1 y2 y3
      go_wp2_with fail
      refine bodyPost_ret (v := (Tm.mk k0 n0 s pv cv lm).val) (by simp (maxDischargeDepth := 9) [results, Try.results108, go_sem, Tm.val, Tm.k, Tm.n, Tm.s, Tm.p, Tm.c, Tm.l, z0, z1, z2, z3, hl0]) rfl ?_
      exact Hkp.out _ ((Kp.set (C := fun b => b = w.heap.size ∨ b = w.heap.size + 2) (.inl rfl)).trans (Kp.sets (C := fun b => b = w.heap.size ∨ b = w.heap.size + 2) (.inr rfl) _ _ _ _))
theorem rput_any : ∀ L : List Int, rputOf L
  | [] => rput_nil
  | n :: L => rput_cons n L (rput_any L)
end Go.Proofs.Ytcblmkhhhibddaa
