/-
  term.general of two compounds of one functor.
-/
import Derived.Test.YtcblmkhhhibddaaTS31
namespace Go.Proofs.Ytcblmkhhhibddaa
open Go.RowKit Go.Maps Go.Lib

def genOf (a : Tm) : Prop := ∀ (S : Nat → Prop) (P : Nat) (v : Value) (l : List Pr) (b : Tm) (w : World), a.In w → b.In w → a.erase.formed = true → b.erase.formed = true → a.On S → b.On S → PSt S P v l w → l.length + T.sz a.erase ≤ 1048576 →
  Calls Try.prog 88 #[a.val, b.val, .pointer (some ⟨P, 0, none⟩)] w (RetGen S P v l a.erase b.erase w)
/-- What the call of two parts leaves. -/
def genX (S : Nat → Prop) (P : Nat) (vi : Value) (li : List Pr) (x y : T) (w0 : World) : VP := fun val w' => ∃ (g : Tm) (v' : Value) (l' : List Pr), val = g.val ∧ g.In w' ∧ g.erase = (T.gen x y (seePrs li)).1 ∧ seePrs l' = (T.gen x y (seePrs li)).2 ∧ PSt S P v' l' w' ∧ Kp (PMut P vi) w0 w' ∧
    g.On (fun b => w0.heap.size ≤ b ∧ v'.ownBlock ≠ some b) ∧ ∀ b, v'.ownBlock = some b → vi.ownBlock = some b ∨ w0.heap.size ≤ b
theorem genX_gr {S : Nat → Prop} {P : Nat} {vi : Value} {li : List Pr} {x y : T} {w0 : World} : ∀ v w w', genX S P vi li x y w0 v w → Gr w w' → genX S P vi li x y w0 v w' := by
  rintro _ w w' ⟨g, v', l', rfl, h1, h2, h3, h4, h5, h6, h7⟩ hg
  exact ⟨g, v', l', rfl, Tm.In_below hg h1, h2, h3, h4.gr hg, h5.trans (Kp.of_gr hg), h6, h7⟩
def aggV : VP := fun v _ => ∃ (k n : Int) (s : ByteArray) (p : Option Addr) (m c : Nat), v = .agg #[.int .i64 k, .int .i64 n, .string s, .slice p m c]
theorem aggV_stable {R : World → World → Prop} : ∀ v w w', aggV v w → R w w' → aggV v w' := fun _ _ _ h _ => h
def sl1V : VP := fun v _ => ∃ B : Nat, v = .slice (some ⟨B, 0, none⟩) 1 1
theorem sl1V_stable {R : World → World → Prop} : ∀ v w w', sl1V v w → R w w' → sl1V v w' := fun _ _ _ h _ => h
theorem gen_alike (sa sb : ByteArray) (pa pb : Option Addr) (ca cb : Nat) (la lb : List Tm) (he : sa.toList = sb.toList) (hl : la.length = lb.length) (E : List (T × T)) :
    T.gen (Tm.mk 4 0 sa pa ca la).erase (Tm.mk 4 0 sb pb cb lb).erase E = (.mk 4 0 sa.toList (T.genL (Tm.eraseL la) (Tm.eraseL lb) E).1, (T.genL (Tm.eraseL la) (Tm.eraseL lb) E).2) := by
  rw [Tm.erase, Tm.erase, T.gen, if_pos (by simp [T.alike, T.k, T.s, T.l, he, Tm.eraseL_length, hl])]
  rfl

set_option maxHeartbeats 4000000 in
set_option maxRecDepth 100000 in
theorem gen_comp (sa sb : ByteArray) (pa pb : Option Addr) (ca cb : Nat) (la lb : List Tm) (he : sa.toList = sb.toList) (hll : la.length = lb.length) (ih : ∀ x ∈ la, genOf x) (S : Nat → Prop) (P : Nat) (v : Value) (l : List Pr) (w : World) (ia : (Tm.mk 4 0 sa pa ca la).In w) (ib : (Tm.mk 4 0 sb pb cb lb).In w)
    (fa : (Tm.mk 4 0 sa pa ca la).erase.formed = true) (fb : (Tm.mk 4 0 sb pb cb lb).erase.formed = true) (oa : (Tm.mk 4 0 sa pa ca la).On S) (ob : (Tm.mk 4 0 sb pb cb lb).On S) (st : PSt S P v l w) (sz : l.length + T.sz (Tm.mk 4 0 sa pa ca la).erase ≤ 1048576) :
    Calls Try.prog 88 #[(Tm.mk 4 0 sa pa ca la).val, (Tm.mk 4 0 sb pb cb lb).val, .pointer (some ⟨P, 0, none⟩)] w (RetGen S P v l (Tm.mk 4 0 sa pa ca la).erase (Tm.mk 4 0 sb pb cb lb).erase w) := by
  have Ia := Lib.hid ia
  have Ib := Lib.hid ib
  have Oa := Lib.hid oa
  have Ob := Lib.hid ob
  have St := Lib.hid st
  have E4 : Hid (lb.length = la.length) := hll.symm
  have Hih := Lib.hid ih
  have hPl := st.lt
  have hvl : Hid (∀ b, v.ownBlock = some b → P < b ∧ b < w.heap.size) := fun b hb => ⟨st.own hb, (st.row.lt b hb).2⟩
  have hSl : Hid (∀ b, S b → b < P) := st.low
  obtain ⟨-, h100, hl1, hl50, hfla⟩ := formed_elem rfl fa
  obtain ⟨-, -, -, -, hflb⟩ := formed_elem rfl fb
  have Hfla := Lib.hid hfla
  have Hflb := Lib.hid hflb
  have hs : sa.size ≤ 140737488351232 := by omega
  have Hs := Lib.hid hs
  have hsz : l.length + T.szL (Tm.eraseL la) ≤ 1048576 := by rw [Tm.erase, T.sz] at sz; omega
  have Hsz := Lib.hid hsz
  have hgen := gen_alike sa sb pa pb ca cb la lb he hll (seePrs l)
  have hQ0 : Hid (∀ (g : Tm) v' l' w', g.In w' → g.erase = .mk 4 0 sa.toList (T.genL (Tm.eraseL la) (Tm.eraseL lb) (seePrs l)).1 → seePrs l' = (T.genL (Tm.eraseL la) (Tm.eraseL lb) (seePrs l)).2 → PSt S P v' l' w' → Kp (PMut P v) w w' →
      g.On (fun x => w.heap.size ≤ x ∧ v'.ownBlock ≠ some x) → (∀ x, v'.ownBlock = some x → v.ownBlock = some x ∨ w.heap.size ≤ x) → RetGen S P v l (Tm.mk 4 0 sa pa ca la).erase (Tm.mk 4 0 sb pb cb lb).erase w (.returned g.val) w') := fun g v' l' w' h1 h2 h3 h4 h5 h6 h7 =>
    ⟨g, v', l', rfl, h1, by rw [h2, hgen], by rw [h3, hgen], h4, h5, h6, h7⟩
  generalize RetGen S P v l (Tm.mk 4 0 sa pa ca la).erase (Tm.mk 4 0 sb pb cb lb).erase w = Q at hQ0 ⊢
  have HQ := hQ0
  have e3' : (sa.toList == sb.toList) = true := by simp [he]
  rw [show (Tm.mk 4 0 sa pa ca la).val = .agg #[.int .i64 4, .int .i64 0, .string sa, .slice pa la.length ca] from rfl, show (Tm.mk 4 0 sb pb cb lb).val = .agg #[.int .i64 4, .int .i64 0, .string sb, .slice pb lb.length cb] from rfl, E4.out]
  clear ia ib oa ob st ih fa fb hfla hflb hs hsz sz hgen hQ0 hll he h100
  go_enter Try.func88, Try.ntmps88
  try simp only [List.append_eq, List.cons_append, List.nil_append]
  go_upto_region 1 with fail
  obtain ⟨h3, h4, h5, gA⟩ := three_blocks w (.int .i64 4) (.int .i64 0) (.string sa) (.slice pa la.length ca) (.int .i64 4) (.int .i64 0) (.string sb) (.slice pb la.length cb) (.int .i64 0) (.int .i64 0) (.string ⟨#[]⟩) (.slice none 0 0)
  have sA : (((w.alloc (.cells #[.int .i64 4, .int .i64 0, .string sa, .slice pa la.length ca] 25)).alloc (.cells #[.int .i64 4, .int .i64 0, .string sb, .slice pb la.length cb] 25)).alloc (.cells #[.int .i64 0, .int .i64 0, .string ⟨#[]⟩, .slice none 0 0] 25)).heap.size = w.heap.size + 3 := by simp
  generalize (((w.alloc (.cells #[.int .i64 4, .int .i64 0, .string sa, .slice pa la.length ca] 25)).alloc (.cells #[.int .i64 4, .int .i64 0, .string sb, .slice pb la.length cb] 25)).alloc (.cells #[.int .i64 0, .int .i64 0, .string ⟨#[]⟩, .slice none 0 0] 25)) = wA at *
  have HnC : Hid (∀ b, b < wA.heap.size → b ≠ P → v.ownBlock ≠ some b → ¬ PMutB P v wA.heap.size b) := fun b h1 h2 h3 h => by
    rcases h with (h | h) | h
    · exact h2 h
    · exact h3 h
    · omega
  have HnP : Hid (∀ b, w.heap.size ≤ b → b < wA.heap.size → ¬ PMutB P v wA.heap.size b) := fun b h1 h2 => HnC.out b h2 (by omega) (fun e => by have := hvl.out b e; omega)
  have HnS : Hid (∀ b, S b → ¬ PMutB P v wA.heap.size b) := fun b h => HnC.out b (by have := hSl.out b h; omega) (by have := hSl.out b h; omega) (fun e => by have := hvl.out b e; have := hSl.out b h; omega)
  obtain ⟨⟨x0, x1, x2, x3⟩, _, _⟩ := h3.out.parts
  obtain ⟨⟨y0, y1, y2, y3⟩, _, _⟩ := h4.out.parts
  go_wp2_with fail
  clear x0 x1 x2 x3 y0 y1 y2 y3
  go_loopg [7, 39] la.length (fun m u0 i wr => ∃ (k : Nat) (cm : List Tm) (vi : Value) (li : List Pr) (u : Value), u = u0 ∧ k ≤ la.length ∧ m = la.length - k ∧ i = .int .i64 k ∧ Hid (GenJ S P v l wA.heap.size la lb k u cm vi li wr) ∧ Kp (PMutB P v wA.heap.size) wA wr)
  case atStart => exact ⟨0, [], v, l, _, rfl, Nat.zero_le _, rfl, rfl, GenJ.start (St.out.gr gA) Hsz.out, Kp.refl _ _⟩
  case round =>
    obtain ⟨k, cm, vi, li, u, rfl, hk, rfl, rfl, hj, kr⟩ := hrel
    have b3 := h3.out.kp kr (HnP.out _ (by omega) (by omega))
    have b4 := h4.out.kp kr (HnP.out _ (by omega) (by omega))
    have B5 := Lib.hid (h5.out.kp kr (HnP.out _ (by omega) (by omega)))
    have hsr : wA.heap.size ≤ wr.heap.size := kr.size
    have kw : Kp (PMutB P v wA.heap.size) w wr := (Kp.of_gr gA).trans kr
    obtain ⟨⟨x0, x1, x2, x3⟩, _, _⟩ := b3.parts
    obtain ⟨⟨y0, y1, y2, y3⟩, _, _⟩ := b4.parts
    by_cases hlt : k < la.length
    · have hlt' : k < lb.length := by have := E4.out; omega
      have hip := Ia.out
      have hit := Ib.out
      have hop := Oa.out
      have hot := Ob.out
      rw [Tm.In] at hip hit
      rw [Tm.On] at hop hot
      obtain ⟨b, o, rfl, hSb⟩ : ∃ b o, pa = some ⟨b, o, none⟩ ∧ S b := by
        rcases hop.1 with h | h
        · rw [h] at hlt; simp at hlt
        · exact h
      obtain ⟨b', o', rfl, hSb'⟩ : ∃ b o, pb = some ⟨b, o, none⟩ ∧ S b := by
        rcases hot.1 with h | h
        · rw [h] at hlt'; simp at hlt'
        · exact h
      have hlc := hip.2.2.2.1
      obtain ⟨hlc2, hlc3⟩ := hip.2.2.2.2.1
      have hr1 : Tm.row w b o la := by
        rcases hip.2.2.2.2.2.1 with h | ⟨b0, o0, he, h⟩
        · rw [h] at hlt; simp at hlt
        · cases he; exact h
      have hr2 : Tm.row w b' o' lb := by
        rcases hit.2.2.2.2.2.1 with h | ⟨b0, o0, he, h⟩
        · rw [h] at hlt'; simp at hlt'
        · cases he; exact h
      obtain ⟨c0, c1, c2, c3⟩ := hr1 k _ (List.getElem?_eq_getElem hlt)
      obtain ⟨d0, d1, d2, d3⟩ := hr2 k _ (List.getElem?_eq_getElem hlt')
      replace c0 := kw.cell c0 (HnS.out b hSb)
      replace c1 := kw.cell c1 (HnS.out b hSb)
      replace c2 := kw.cell c2 (HnS.out b hSb)
      replace c3 := kw.cell c3 (HnS.out b hSb)
      replace d0 := kw.cell d0 (HnS.out b' hSb')
      replace d1 := kw.cell d1 (HnS.out b' hSb')
      replace d2 := kw.cell d2 (HnS.out b' hSb')
      replace d3 := kw.cell d3 (HnS.out b' hSb')
      have hmem := List.getElem_mem hlt
      have hmem' := List.getElem_mem hlt'
      have Hih2 := Lib.hid (Hih.out _ hmem)
      have Oxa := Lib.hid (Tm.OnL_mem hop.2 _ hmem)
      have Oxb := Lib.hid (Tm.OnL_mem hot.2 _ hmem')
      have Ixa := Lib.hid (kp_in (Tm.InL_mem hip.2.2.2.2.2.2 _ hmem) Oxa.out (fun b hb => HnS.out b hb) kw)
      have Ixb := Lib.hid (kp_in (Tm.InL_mem hit.2.2.2.2.2.2 _ hmem') Oxb.out (fun b hb => HnS.out b hb) kw)
      have Fxa := Lib.hid (Hfla.out _ hmem)
      have Fxb := Lib.hid (Hflb.out _ hmem')
      have hown := hj.out.own
      have hfew : li.length + T.sz la[k].erase ≤ 1048576 := by
        have h1 := hj.out.few
        have h2 := szL_step la k hlt
        omega
      have Hfew := Lib.hid hfew
      have Hnxt := Lib.hid (fun (g : Tm) (v' : Value) (l' : List Pr) (w' : World) => hj.out.called (g := g) (v' := v') (l' := l') (w' := w') (x := la[k]) (y := lb[k]) (by omega) hsr hlt hlt' rfl rfl)
      have nS : ∀ c, S c → ¬ PMut P vi c := fun c hc h => by
        have h1 := hSl.out c hc
        rcases h with h | h
        · omega
        · rcases hown c h with h2 | h2
          · have := hvl.out c h2; omega
          · omega
      have nW : ∀ c, w.heap.size ≤ c → c < wA.heap.size → ¬ PMut P vi c := fun c h1 h2 h => by
        rcases h with h | h
        · omega
        · rcases hown c h with h3 | h3
          · have := hvl.out c h3; omega
          · omega
      have n1 := nS b hSb
      have n2 := nS b' hSb'
      have n3 := nW w.heap.size (Nat.le_refl _) (by omega)
      have n4 := nW (w.heap.size + 1) (by omega) (by omega)
      have hcl : cm.length = k := hj.out.cnt
      clear hip hit hop hot hr1 hr2 kw hmem hmem' hfew hown nS nW
      generalize la[k] = x at *
      generalize lb[k] = y at *
      go_upto_region 6 with fail
      refine wp_region_relyA 14 [fx u, fx (.pointer (some ⟨w.heap.size, 3, none⟩)), fx (.slice (some ⟨b, o, none⟩) la.length ca), fx (.int .i64 k), fx (.pointer (some ⟨b, o + k * 4, none⟩)), fx (.agg #[.int .i64 x.k, .int .i64 x.n, .string x.s, .slice x.p x.l.length x.c]), fx (.pointer (some ⟨w.heap.size + 1, 3, none⟩)), fx (.slice (some ⟨b', o', none⟩) la.length cb), fx (.int .i64 k), fx (.pointer (some ⟨b', o' + k * 4, none⟩)), fx (.agg #[.int .i64 y.k, .int .i64 y.n, .string y.s, .slice y.p y.l.length y.c]), fx (.pointer (some ⟨P, 0, none⟩)), aggV, sl1V]
        (Kp (PMut P vi)) (CallJ wr 114 12 13 54 55 (genX S P vi li x.erase y.erase wr)) (by kernel_rfl) (by kernel_rfl) (by decide) (by kernel_rfl) (fun _ _ h => Kp.of_gr h) (fun _ _ _ h k => Kp.trans h k) (fun w hw => CallJ.start _ hw rfl) (by repeat (first | exact StableR.nil | refine StableR.fix ?_ | refine StableR.cons aggV_stable ?_ | refine StableR.cons sl1V_stable ?_)) ?_ ?_
      · refine ⟨stepA_plain (fun _ _ h => Kp.of_gr h) (fun listed a w w' v h hg => CallJ.other genX_gr rfl listed a w w' v h hg) ?_, stepA_plain (fun _ _ h => Kp.of_gr h) (fun listed a w w' v h hg => CallJ.other genX_gr rfl listed a w w' v h hg) ?_, stepA_plain (fun _ _ h => Kp.of_gr h) (fun listed a w w' v h hg => CallJ.other genX_gr rfl listed a w w' v h hg) ?_, stepA_plain (fun _ _ h => Kp.of_gr h) (fun listed a w w' v h hg => CallJ.other genX_gr rfl listed a w w' v h hg) ?_, stepA_plain (fun _ _ h => Kp.of_gr h) (fun listed a w w' v h hg => CallJ.other genX_gr rfl listed a w w' v h hg) ?_, stepA_plain (fun _ _ h => Kp.of_gr h) (fun listed a w w' v h hg => CallJ.other genX_gr rfl listed a w w' v h hg) ?_, stepA_plain (fun _ _ h => Kp.of_gr h) (fun listed a w w' v h hg => CallJ.other genX_gr rfl listed a w w' v h hg) ?_, stepA_plain (fun _ _ h => Kp.of_gr h) (fun listed a w w' v h hg => CallJ.other genX_gr rfl listed a w w' v h hg) ?_, stepA_plain (fun _ _ h => Kp.of_gr h) (fun listed a w w' v h hg => CallJ.other genX_gr rfl listed a w w' v h hg) ?_, stepA_plain (fun _ _ h => Kp.of_gr h) (fun listed a w w' v h hg => CallJ.other genX_gr rfl listed a w w' v h hg) ?_, stepA_plain (fun _ _ h => Kp.of_gr h) (fun listed a w w' v h hg => CallJ.other genX_gr rfl listed a w w' v h hg) ?_, stepA_plain (fun _ _ h => Kp.of_gr h) (fun listed a w w' v h hg => CallJ.other genX_gr rfl listed a w w' v h hg) ?_, ?a12, ?a13, trivial⟩
        case a12 =>
          intro listed fr ww hj2 hl hpre hg hdef hold
          have h2 : fr.tmps[2]?.getD undef = .pointer (some ⟨P, 0, none⟩) := hold 2 rfl
          have hp : fr.tmps[3]?.getD undef = .pointer (some ⟨w.heap.size, 0, none⟩) := hold 3 rfl
          have hq : fr.tmps[4]?.getD undef = .pointer (some ⟨w.heap.size + 1, 0, none⟩) := hold 4 rfl
          have h7 : fr.tmps[7]?.getD undef = u := hold 7 rfl
          have h8 : fr.tmps[8]?.getD undef = .int .i64 k := hold 8 rfl
          have zc0 := Kp.cell hg c0 n1
          have zc1 := Kp.cell hg c1 n1
          have zc2 := Kp.cell hg c2 n1
          have zc3 := Kp.cell hg c3 n1
          have zd0 := Kp.cell hg d0 n2
          have zd1 := Kp.cell hg d1 n2
          have zd2 := Kp.cell hg d2 n2
          have zd3 := Kp.cell hg d3 n2
          have zx3 := Kp.cell hg x3 n3
          have zy3 := Kp.cell hg y3 n4
          have Hg := Lib.hid hg
          clear hold x0 x1 x2 x3 y0 y1 y2 y3 c0 c1 c2 c3 d0 d1 d2 d3
          clear hdef
          have gz : Gr wr ww := (hj2.no (getD_tf hl)).1
          have hcall := Hih2.out S P vi li y ww (Tm.In_below gz Ixa.out) (Tm.In_below gz Ixb.out) Fxa.out Fxb.out Oxa.out Oxb.out (hj.out.st.gr gz) Hfew.out
          have Hcall := Lib.hid (show Calls Try.prog 88 #[.agg #[.int .i64 x.k, .int .i64 x.n, .string x.s, .slice x.p x.l.length x.c], .agg #[.int .i64 y.k, .int .i64 y.n, .string y.s, .slice y.p y.l.length y.c], .pointer (some ⟨P, 0, none⟩)] ww _ from hcall)
          clear hcall
          simp [predsImp, Region.binds, dstAt, fx]
          intros
          rename_i K hK
          go_simp
          refine Hcall.out.mono ?_
          rintro e w9 ⟨g, v', l', rfl, gin, ge, le, st, kp, on, ow⟩
          exact hK _ _ ⟨_, _, _, _, _, _, rfl⟩ kp (CallJ.call hj2 hl (by decide) (by decide) kp.size ⟨g, v', l', rfl, gin, ge, le, st, (Kp.of_gr gz).trans kp, on.mono fun c hc => ⟨Nat.le_trans gz.size hc.1, hc.2⟩, fun c hc => (ow c hc).imp id fun h => Nat.le_trans gz.size h⟩)
        case a13 =>
          intro listed fr ww hj2 hl hpre hg hdef hold
          have h2 : fr.tmps[2]?.getD undef = .pointer (some ⟨P, 0, none⟩) := hold 2 rfl
          have hp : fr.tmps[3]?.getD undef = .pointer (some ⟨w.heap.size, 0, none⟩) := hold 3 rfl
          have hq : fr.tmps[4]?.getD undef = .pointer (some ⟨w.heap.size + 1, 0, none⟩) := hold 4 rfl
          have h7 : fr.tmps[7]?.getD undef = u := hold 7 rfl
          have h8 : fr.tmps[8]?.getD undef = .int .i64 k := hold 8 rfl
          have zc0 := Kp.cell hg c0 n1
          have zc1 := Kp.cell hg c1 n1
          have zc2 := Kp.cell hg c2 n1
          have zc3 := Kp.cell hg c3 n1
          have zd0 := Kp.cell hg d0 n2
          have zd1 := Kp.cell hg d1 n2
          have zd2 := Kp.cell hg d2 n2
          have zd3 := Kp.cell hg d3 n2
          have zx3 := Kp.cell hg x3 n3
          have zy3 := Kp.cell hg y3 n4
          have Hg := Lib.hid hg
          clear hold x0 x1 x2 x3 y0 y1 y2 y3 c0 c1 c2 c3 d0 d1 d2 d3
          clear hdef
          simp [predsImp, Region.binds, dstAt]
          rintro ⟨k1, n1, s1, p1, m1, c1, hv1⟩ K hK
          go_simp
          exact hK _ _ ⟨_, rfl⟩ (Kp.of_gr (by go_grown)) (CallJ.made genX_gr hj2 (hpre ⟨12, Ground.data⟩ (by simp) rfl) hl (by decide) (by decide) (by decide) (by go_grown) ⟨ww.heap.size, _, _, _, _, hv1, rfl, hj2.grown, Blk4.new _ _ _ _ _⟩)
        all_goals
          intro fr ww hg hold
          have h2 : fr.tmps[2]?.getD undef = .pointer (some ⟨P, 0, none⟩) := hold 2 rfl
          have hp : fr.tmps[3]?.getD undef = .pointer (some ⟨w.heap.size, 0, none⟩) := hold 3 rfl
          have hq : fr.tmps[4]?.getD undef = .pointer (some ⟨w.heap.size + 1, 0, none⟩) := hold 4 rfl
          have h7 : fr.tmps[7]?.getD undef = u := hold 7 rfl
          have h8 : fr.tmps[8]?.getD undef = .int .i64 k := hold 8 rfl
          have zc0 := Kp.cell hg c0 n1
          have zc1 := Kp.cell hg c1 n1
          have zc2 := Kp.cell hg c2 n1
          have zc3 := Kp.cell hg c3 n1
          have zd0 := Kp.cell hg d0 n2
          have zd1 := Kp.cell hg d1 n2
          have zd2 := Kp.cell hg d2 n2
          have zd3 := Kp.cell hg d3 n2
          have zx3 := Kp.cell hg x3 n3
          have zy3 := Kp.cell hg y3 n4
          have Hg := Lib.hid hg
          clear hold x0 x1 x2 x3 y0 y1 y2 y3 c0 c1 c2 c3 d0 d1 d2 d3
          simp [predsImp, Region.binds, dstAt, fx]
          intros
          rename_i K hK
          go_simp
        all_goals exact hK _ _ rfl (Gr.rfl' _)
      · intro w9 hg
        rintro u rfl _ rfl _ rfl _ rfl _ rfl _ rfl _ rfl _ rfl _ rfl _ rfl _ rfl _ rfl _ ⟨gk, gn, gs, gp, gm, gc, rfl⟩ _ ⟨B1, rfl⟩ hcj
        simp only [Act.put, List.setIfInBounds_toArray, List.set_cons_succ, List.set_cons_zero, List.drop_succ_cons, List.drop_zero] at hcj ⊢
        obtain ⟨⟨g, v', l', hgv, gin, ge, le, st, kp, on, ow⟩, ⟨B, v0, v1, v2, v3, e1, e2, hB0, hblk⟩⟩ := hcj.end_ (by show 12 < 14; omega) (by show 13 < 14; omega)
        replace e2 : Value.slice (some ⟨B1, 0, none⟩) 1 1 = Value.slice (some ⟨B, 0, none⟩) 1 1 := e2
        obtain rfl : B1 = B := by cases e2; rfl
        have e3 : Value.agg #[.int .i64 g.k, .int .i64 g.n, .string g.s, .slice g.p g.l.length g.c] = Value.agg #[v0, v1, v2, v3] := hgv.symm.trans e1
        have hblk2 : Blk4 w9 B1 (.int .i64 g.k) (.int .i64 g.n) (.string g.s) (.slice g.p g.l.length g.c) := by cases e3; exact hblk
        clear hcj hgv e1 e2 e3 hblk x0 x1 x2 x3 y0 y1 y2 y3 c0 c1 c2 c3 d0 d1 d2 d3
        obtain ⟨q1, q2, q3, q4, q5, q6, q7, q8⟩ := Hnxt.out g v' l' w9 ge le st kp on ow
        have hs9 : wA.heap.size ≤ w9.heap.size := Nat.le_trans hsr hg.size
        have gon : g.On fun b => (False ∨ wA.heap.size ≤ b) ∧ u.ownBlock ≠ some b := on.mono fun c hc => ⟨.inr (Nat.le_trans hsr hc.1), fun e => by have := (q2 c e).2.2; have := hc.1; omega⟩
        refine wpList_append_termO rfl _ _ rfl rfl wA.heap.size (fun _ => False) u cm g B1 1 (by rfl) (by rfl) q1 hs9 gin gon (by omega) hblk2 ?_
        intro u2 w10 r1 r2 r3
        obtain ⟨hJ2, k2⟩ := GenJ.next (by omega) hs9 st r1 r2 r3 hcl q2 q3 q4 q5 q6 q7
        have HJ2 := Lib.hid hJ2
        have kA := (kr.trans q8).trans k2
        clear hJ2 k2 q1 q2 q3 q4 q5 q6 q7 q8 gon hblk2 r1 r2 r3 st kp on ow gin ge le
        go_wp2_with fail
        go_roundg (la.length - (k + 1))
        case measure => omega
        case rel => exact ⟨k + 1, cm ++ [g], v', l', u2, rfl, by omega, rfl, by go_num, HJ2, kA⟩
    · obtain rfl : k = la.length := by omega
      obtain ⟨p, c, rfl, hpc, hcc⟩ := hj.out.row.form
      have hcl : cm.length = la.length := hj.out.cnt
      have hd1 : Tm.eraseL (la.drop la.length) = [] := by rw [List.drop_length, Tm.eraseL]
      have hg0 : ∀ (m : List T) (E : List (T × T)), T.genL [] m E = ([], E) := fun m E => by rw [T.genL]; intro _ _ _ _ h; cases h
      have h1 := hj.out.one
      have h2 := hj.out.two
      rw [hd1, hg0] at h1 h2
      rw [List.append_nil] at h1
      obtain ⟨-, hsl, hon⟩ := hj.out.row.sl (by omega)
      have hin := compTm_in Hs.out hsl
      have hcon : (compTm sa p c cm).On (fun x => wA.heap.size ≤ x ∧ vi.ownBlock ≠ some x) := by
        rw [compTm, Tm.On]
        refine ⟨hon.1.imp id ?_, (Tm.OnL.and hon.2 hj.out.on).mono fun x hx => ⟨hx.1.resolve_left id, hx.2⟩⟩
        rintro ⟨b, o, rfl, hb⟩
        refine ⟨b, o, rfl, hb.resolve_left id, ?_⟩
        exact hj.out.off b (by rcases hj.out.row.1.2 with ⟨h, _⟩ | ⟨g, cap, cur, h, _⟩ <;> cases h; rfl)
      have hst := hj.out.st
      have hown := hj.out.own
      have hqq := B5.out
      have kk := Kp.sets (C := (· = w.heap.size + 2)) (w := wr) (b := w.heap.size + 2) rfl (.int .i64 4) (.int .i64 0) (.string sa) (.slice p cm.length c)
      have hvo : ∀ b, vi.ownBlock = some b → ¬ b = w.heap.size + 2 := fun b hb e => by
        rcases hown b hb with h | h
        · have := hvl.out b h; omega
        · omega
      have Hfin := Lib.hid (fun w' (gz : Gr wr w') => HQ.out (compTm sa p c cm) vi li (((((w'.setCell ⟨w.heap.size + 2, 0, none⟩ (.int .i64 4)).setCell ⟨w.heap.size + 2, 1, none⟩ (.int .i64 0)).setCell ⟨w.heap.size + 2, 2, none⟩ (.string sa)).setCell ⟨w.heap.size + 2, 3, none⟩ (.slice p cm.length c)))
        (by
          have kz := Kp.sets (C := (· = w.heap.size + 2)) (w := w') (b := w.heap.size + 2) rfl (.int .i64 4) (.int .i64 0) (.string sa) (.slice p cm.length c)
          exact kp_in (Tm.In_below gz hin) hcon (fun b hb e => by have := hb.1; omega) kz)
        (by rw [compTm, Tm.erase, h1])
        h2
        (by
          have kz := Kp.sets (C := (· = w.heap.size + 2)) (w := w') (b := w.heap.size + 2) rfl (.int .i64 4) (.int .i64 0) (.string sa) (.slice p cm.length c)
          exact (hst.gr gz).kp kz (by omega) hvo (fun b hb => by have := hSl.out b hb; omega))
        (by
          have kz := Kp.sets (C := (· = w.heap.size + 2)) (w := w') (b := w.heap.size + 2) rfl (.int .i64 4) (.int .i64 0) (.string sa) (.slice p cm.length c)
          have h9 : Kp (fun b => PMutB P v wA.heap.size b ∨ b = w.heap.size + 2) w _ := ((kw.mono fun b hb => .inl hb).trans (Kp.of_gr gz)).trans (kz.mono fun b hb => .inr hb)
          exact h9.weaken fun b hb h => by
            rcases h with (h | h) | h
            · exact h
            · omega
            · omega)
        (hcon.mono fun x hx => ⟨by have := hx.1; omega, hx.2⟩)
        (fun x hx => (hown x hx).imp id fun h => by omega))
      have hC := Lib.hid (fun w' => comp_calls sa p cm.length c w')
      clear h1 h2 hsl hon hin hcon hst hown hvo kk kw hd1 hg0 hcl
      go_wp2_with fail
      refine (hC.out _).mono ?_
      rintro e w9 ⟨rfl, g9⟩
      replace g9 : Gr wr w9 := g9
      obtain ⟨⟨r0, r1, r2, r3⟩, ⟨z0, z1, z2, z3⟩, _⟩ := (Blk4.gr hqq g9).parts
      have Hb := Lib.hid (Hfin.out w9 g9)
      clear x0 x1 x2 x3 y0 y1 y2 y3 Hfin
      go_wp2_with fail
      exact bodyPost_ret (v := (compTm sa p c cm).val) (by simp (maxDischargeDepth := 9) [results, Try.results88, go_sem, compTm, Tm.val, Tm.k, Tm.n, Tm.s, Tm.p, Tm.c, Tm.l, r0, r1, r2, r3]) rfl Hb.out
end Go.Proofs.Ytcblmkhhhibddaa
