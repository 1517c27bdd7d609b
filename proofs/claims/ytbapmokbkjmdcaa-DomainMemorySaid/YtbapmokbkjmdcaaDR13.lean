/-
  (*engine).reduce.
-/
import Derived.Test.YtbapmokbkjmdcaaDR12
namespace Go.Proofs.Ytbapmokbkjmdcaa
open Go.RowKit Go.Maps Go.Lib

/-- A new block that is no constraint yet. -/
def cnV (B0 : Nat) : VP := fun v w => ∃ B, v = .pointer (some ⟨B, 0, none⟩) ∧ B0 ≤ B ∧ BlkT w B 42 #[.int .i64 0, .slice none 0 0, .slice none 0 0, .int .i64 0, .int .i64 0]
theorem cnV_stable {B0 : Nat} : ∀ v w w', cnV B0 v w → Gr w w' → cnV B0 v w' := fun _ _ _ ⟨B, h1, h2, h3⟩ hg => ⟨B, h1, h2, h3.gr hg⟩
/-- Between Clone and DeleteFunc: what the copy holds, and what is left of it. -/
def DelJ (B : Nat) (d fl : List Int) (listed : Array Bool) (a : Act) (w : World) : Prop :=
  (listed.getD 12 false = true → listed.getD 14 false = false → ∀ q n c, a.tmps[60]?.getD undef = .slice q n c → IntsOwn w B (.slice q n c) d) ∧
  (listed.getD 14 false = true → ∀ q n c, a.tmps[62]?.getD undef = .slice q n c → IntsOwn w B (.slice q n c) fl) ∧
  (listed.getD 14 false = true → listed.getD 12 false = true)
theorem DelJ.start (B : Nat) (d fl : List Int) (n : Nat) (a : Act) (w : World) : DelJ B d fl (Array.replicate n false) a w := by
  have : ∀ i, (Array.replicate n false).getD i false = false := by
    intro i
    rw [Array.getD_eq_getD_getElem?, Array.getElem?_replicate]
    split <;> rfl
  exact ⟨fun h => absurd h (by rw [this]; decide), fun h => absurd h (by rw [this]; decide), fun h => absurd h (by rw [this]; decide)⟩
theorem DelJ.other {B : Nat} {d fl : List Int} {i : Nat} {t : Option Tmp} (hi : (i != 12 && i != 14 && t != some 60 && t != some 62) = true) (listed : Array Bool) (a : Act) (w w' : World) (v : Value) (h : DelJ B d fl listed a w) (hg : Gr w w') : DelJ B d fl (listed.setIfInBounds i true) (a.put t v) w' := by
  simp only [Bool.and_eq_true, bne_iff_ne] at hi
  obtain ⟨⟨⟨h1, h2⟩, h3⟩, h4⟩ := hi
  unfold DelJ
  rw [Go.getD_set_ne false h1, Go.getD_set_ne false h2, put_ne h3, put_ne h4]
  exact ⟨fun a1 a2 q n c e => (h.1 a1 a2 q n c e).gr hg, fun a1 q n c e => (h.2.1 a1 q n c e).gr hg, h.2.2⟩
theorem DelJ.clone {B : Nat} {d fl : List Int} {listed : Array Bool} {a : Act} {w w' : World} {v : Value} (h : DelJ B d fl listed a w) (_ : Gr w w') (hv : IntsOwn w' B v d) (hl : listed.getD 12 true = false) : DelJ B d fl (listed.setIfInBounds 12 true) (a.put (some 60) v) w' := by
  unfold DelJ
  rw [Go.getD_set_ne false (show (12 : Nat) ≠ 14 by decide), put_ne (show (some 60 : Option Tmp) ≠ some 62 by decide)]
  have h12 : listed.getD 12 false = false := by
    rw [Array.getD_eq_getD_getElem?] at hl ⊢
    cases hx : listed[12]? with
    | none => rfl
    | some b => rw [hx] at hl; exact hl
  refine ⟨fun _ _ q n c e => ?_, fun a1 q n c e => ?_, fun a1 => ?_⟩
  · rw [← put_eq e (fun e => by cases e)]; exact hv
  · exact absurd (h.2.2 a1) (by rw [h12]; decide)
  · exact absurd (h.2.2 a1) (by rw [h12]; decide)
theorem DelJ.del {B : Nat} {d fl : List Int} {listed : Array Bool} {a : Act} {w' : World} {v : Value} (h12 : listed.getD 12 false = true) (hl : listed.getD 14 true = false) (hv : IntsOwn w' B v fl) : DelJ B d fl (listed.setIfInBounds 14 true) (a.put (some 62) v) w' := by
  unfold DelJ
  rw [Go.getD_set_ne false (show (14 : Nat) ≠ 12 by decide), put_ne (show (some 62 : Option Tmp) ≠ some 60 by decide)]
  refine ⟨fun _ a2 q n c e => ?_, fun _ q n c e => ?_, fun _ => h12⟩
  · by_cases hs : 14 < listed.size
    · rw [Array.getD_eq_getD_getElem?, Array.getElem?_setIfInBounds_self_of_lt hs] at a2; cases a2
    · rw [Array.getD_eq_getD_getElem?, Array.getElem?_eq_none (by omega)] at hl; cases hl
  · rw [← put_eq e (fun e => by cases e)]; exact hv
theorem DelJ.done {B : Nat} {d fl : List Int} {m : Nat} {a : Act} {w : World} (h : DelJ B d fl (Array.replicate m true) a w) (hm : 14 < m) : ∀ q n c, a.tmps[62]?.getD undef = .slice q n c → IntsOwn w B (.slice q n c) fl :=
  h.2.1 (by rw [Array.getD_eq_getD_getElem?, Array.getElem?_replicate, if_pos hm]; rfl)
theorem ownsRow_base {w : World} {B B' : Nat} {e : TypeId} {v : Value} {n : Nat} {xs : List Value} (h : w.ownsRow B e 1 v n xs) (hb : B' ≤ B) : w.ownsRow B' e 1 v n xs := by
  refine ⟨h.1, h.2.imp id ?_⟩
  rintro ⟨g, cap, cur, rfl, h1, h2⟩
  exact ⟨g, cap, cur, rfl, Nat.le_trans hb h1, h2⟩
theorem getD_tf {l : Array Bool} {i : Nat} (h : l.getD i true = false) : l.getD i false = false := by
  rw [Array.getD_eq_getD_getElem?] at h ⊢
  cases hx : l[i]? with
  | none => rfl
  | some b => rw [hx] at h; exact h
/-- A slice, whatever it is. -/
def slV : VP := fun v _ => ∃ q n c, v = .slice q n c
theorem EngW.cells {F : Fam} {w0 : World} {e dB : Nat} {D : List (List Int)} {w : World} (h : EngW F w0 e dB D w) : ∃ dp dc, w.cell? ⟨e, 0, none⟩ = some F.P0 ∧ w.cell? ⟨e, 1, none⟩ = some (.slice F.pc F.C.length F.cc) ∧ w.cell? ⟨e, 2, none⟩ = some (.slice dp D.length dc) ∧ w.cell? ⟨e, 3, none⟩ = some (.slice (some ⟨F.uB, 0, none⟩) F.N F.uc) ∧ D.length ≤ dc ∧ dc ≤ 9223372036854775807 ∧ (0 < D.length → dp = some ⟨dB, 0, none⟩) := by
  obtain ⟨dp, dc, h1, h2, h3, h4⟩ := h.blk
  exact ⟨dp, dc, h1.cell 0 rfl, h1.cell 1 rfl, h1.cell 2 rfl, h1.cell 3 rfl, h2, h3, h4⟩

set_option maxHeartbeats 8000000 in
set_option maxRecDepth 100000 in
theorem reduce_calls (F : Fam) (w0 : World) (e dB : Nat) (D : List (List Int)) (p : Option Addr) (c : Nat) (T : List Int) (w : World) (hF : FamOk F w0) (hw : FamW F w0 w) (he : EngW F w0 e dB D w) (ht : TodoM F w0 w p c T) (hnd : T.Nodup) (hval : ∀ k ∈ T, 0 ≤ k ∧ k < (F.C.length : Int))
    (hcst : ∀ (k : Nat) (x : Con), F.cons[k]? = some x → (k : Int) ∉ T → Cst D x) :
    Calls Try.prog 31 #[.pointer (some ⟨e, 0, none⟩), .slice p T.length c] w (RetRed F w0 e dB p D w) := by
  have HF := Lib.hid hF
  have HW := Lib.hid hw
  have HE := Lib.hid he
  have HT := Lib.hid ht
  have HND := Lib.hid hnd
  have HVAL := Lib.hid hval
  have HCST := Lib.hid hcst
  have hlc := ht.sl.1
  have hcc := ht.sl.2.1
  have hRt : Hid (∀ E w', FamW F w0 w' → Kp (MutR F dB p) w w' → EngW F w0 e dB E w' → RedOk F.cons D E → RetRed F w0 e dB p D w (.returned (.bool true)) w') := fun E w' h1 h2 h3 h4 => ⟨true, rfl, h1, h2, fun _ => ⟨E, h3, h4⟩, fun h => by cases h⟩
  have hRf : Hid (∀ w', FamW F w0 w' → Kp (MutR F dB p) w w' → RedNo F.cons D → RetRed F w0 e dB p D w (.returned (.bool false)) w') := fun w' h1 h2 h3 => ⟨false, rfl, h1, h2, (fun h => by cases h), fun _ => h3⟩
  generalize RetRed F w0 e dB p D w = Q at hRt hRf ⊢
  clear hF hw he ht hnd hval hcst
  go_enter Try.func31, Try.ntmps31
  try simp only [List.append_eq, List.cons_append, List.nil_append]
  go_upto_region 1 with fail
  have hB := BlkT.new w 57 #[.pointer (some ⟨e, 0, none⟩)]
  have gA : Gr w (w.alloc (.cells #[.pointer (some ⟨e, 0, none⟩)] 57)) := by go_grown
  generalize hwA : w.alloc (.cells #[.pointer (some ⟨e, 0, none⟩)] 57) = wA at *
  clear hwA
  have HG := Lib.hid gA
  have HRS : Hid (RS F w0 e dB p w.heap.size wA D T p c wA) := ⟨HE.out.gr gA, HW.out.gr' gA, HT.out.gr gA, HND.out, HVAL.out, Kp.refl _ _, fun a' ha => .inl ⟨a', ha, rfl⟩, hB⟩
  have e0 := hB.cell 0 (v := .pointer (some ⟨e, 0, none⟩)) rfl
  obtain ⟨dp, dc, -, -, d2, -, hd1, hd2, -⟩ := HRS.out.eng.cells
  obtain ⟨dp', dc', hd', -, -, hrows⟩ := HRS.out.eng.engD
  rw [d2] at hd'
  cases hd'
  have Hct := Lib.hid (containsRows 50 #[] (fun n => decide (n = 0)) red1_pred dp dc D wA hrows hd1 hd2)
  obtain ⟨anyE, hany⟩ : ∃ b, (D.any fun d => decide (d.length = 0)) = b := ⟨_, rfl⟩
  rw [hany] at Hct
  have HAny := Lib.hid hany
  clear hB gA hrows hany hd1 hd2
  cases anyE with
  | true =>
    have HNo := Lib.hid (redNo_empty (C := F.cons) HAny.out)
    go_wp2_with (first
      | (go_at_call 28; refine Hct.out.mono ?_; rintro e1 w1 ⟨rfl, hb⟩; have HB1 := Lib.hid (show Gr wA w1 from hb); clear hb)
      | fail)
    exact hRf.out _ (HRS.out.fam.gr' HB1.out) (Kp.of_gr (HG.out.trans HB1.out)) HNo.out
  | false =>
    have HNE := Lib.hid (all_nonempty HAny.out)
    have HNEAR := Lib.hid HE.out.near
    go_upto_region 3 with (first
      | (go_at_call 28; refine Hct.out.mono ?_; rintro e1 w1 ⟨rfl, hb⟩; have HB1 := Lib.hid (show Gr wA w1 from hb); clear hb)
      | fail)
    have HR1 := Lib.hid (HRS.out.gr HB1.out)
    have HI1 : Hid (RedInv F.cons D D T) := RedInv.start HNE.out HCST.out
    clear HRS HAny Hct e0 d2
    go_loopg [1] (totD D * (F.C.length + 1) + T.length) (fun k s1 wr => ∃ D' T' p' c', k = totD D' * (F.C.length + 1) + T'.length ∧ s1 = .slice p' T'.length c' ∧ Hid (RS F w0 e dB p w.heap.size wA D' T' p' c' wr) ∧ Hid (RedInv F.cons D D' T'))
    case atStart => exact ⟨D, T, p, c, rfl, rfl, HR1, HI1⟩
    case round =>
      obtain ⟨D', T', p', c', rfl, rfl, hrs, hri⟩ := hrel
      clear HR1 HI1
      cases T' with
      | nil =>
        have HOk := Lib.hid hri.out.done
        go_wp2_with fail
        exact hRt.out D' _ hrs.out.fam ((Kp.of_gr HG.out).trans hrs.out.kp) hrs.out.eng HOk.out
      | cons k T2 =>
        obtain ⟨g, o, rfl, hk0, htl⟩ := hrs.out.tail
        have hk0' := hk0
        obtain ⟨hkv0, hkv1⟩ := hrs.out.val k (List.mem_cons_self ..)
        obtain ⟨x, hx⟩ : ∃ x, F.C[k.toNat]? = some x := ⟨_, List.getElem?_eq_getElem (by omega)⟩
        have hxin : x ∈ F.C := List.mem_of_getElem? hx
        have HXC := Lib.hid (show F.cons[k.toNat]? = some x.con by rw [Fam.cons, List.getElem?_map, hx]; rfl)
        have HXO := Lib.hid (HF.out.oks x hxin)
        have HXI := Lib.hid (HF.out.ins x hxin)
        obtain ⟨cb, co, hpc, _, hcells⟩ := (HF.out.cns.mono hrs.out.fam.gr).resolve_left (fun e0 => by rw [e0] at hxin; exact (List.not_mem_nil hxin))
        have x0 := hcells _ x hx 0 (.int .i64 x.k) rfl
        have x1 := hcells _ x hx 1 (.slice x.vp x.vs.length x.vc) rfl
        have x2 := hcells _ x hx 2 (.slice x.cp x.cs.length x.cc) rfl
        have x3 := hcells _ x hx 3 (.int .i64 x.op) rfl
        have x4 := hcells _ x hx 4 (.int .i64 x.c) rfl
        simp only [← Nat.add_assoc, Nat.add_zero] at x0 x1 x2 x3 x4
        obtain ⟨dp, dc, -, d1, -, -, -, -, -⟩ := hrs.out.eng.cells
        rw [hpc] at d1
        have e0 := hrs.out.box.cell 0 (v := .pointer (some ⟨e, 0, none⟩)) rfl
        have hlen : (k :: T2).length = T2.length + 1 := rfl
        have hTc := hrs.out.todo.sl.1
        have hTm := hrs.out.todo.sl.2.1
        rw [hlen] at hTc ⊢
        have hgt : (0 : Int) < (T2.length : Int) + 1 := by omega
        have hgt2 : 0 < T2.length + 1 := by omega
        have hne : ∀ q : Addr, (some q = none) = False := fun _ => by simp
        clear hcells hxin hlen hpc hne
        go_upto_region 4 with fail
        refine wp_region_rely_tail 11 [fx (.pointer (some ⟨e, 0, none⟩)), fx (.pointer (some ⟨e, 0, none⟩)), fx (.pointer (some ⟨e, 0, none⟩)), fx (.pointer (some ⟨e, 1, none⟩)), fx (.slice (some ⟨cb, co, none⟩) F.C.length F.cc), fx (.slice (some ⟨g, o, none⟩) (T2.length + 1) c'), fx (.pointer (some ⟨g, o, none⟩)), fx (.int .i64 k), fx (.pointer (some ⟨cb, co + k.toNat * 5, none⟩)), fx (.agg #[.int .i64 x.k, .slice x.vp x.vs.length x.vc, .slice x.cp x.cs.length x.cc, .int .i64 x.op, .int .i64 x.c]), cnV wr.heap.size]
          (by kernel_rfl) (by kernel_rfl) (by decide) (by repeat (first | exact Stable.nil | refine Stable.fix ?_ | refine Stable.cons cnV_stable ?_)) ?_ ?_
        · refine ⟨?_, ?_, ?_, ?_, ?_, ?_, ?_, ?_, ?_, ?_, ?a10, trivial⟩
          all_goals
            intro fr wz hg hold
            have h2 : fr.tmps[2]?.getD undef = .pointer (some ⟨w.heap.size, 0, none⟩) := hold 2 rfl
            have h1 : fr.tmps[1]?.getD undef = .slice (some ⟨g, o, none⟩) (T2.length + 1) c' := hold 1 rfl
            clear hold
            have qe0 := Gr.at hg e0
            have qd1 := Gr.at hg d1
            have qhk0 := Gr.at hg hk0
            have qx0 := Gr.at hg x0
            have qx1 := Gr.at hg x1
            have qx2 := Gr.at hg x2
            have qx3 := Gr.at hg x3
            have qx4 := Gr.at hg x4
            simp [predsImp, Region.binds, dstAt, fx]
            intros
            first
              | (rw [if_pos (by simp [*])]
                 intro K hK)
              | (rename_i K hK)
            go_simp
          case a10 =>
            exact hK _ _ ⟨_, rfl, hg.size, BlkT.new _ _ _⟩ (by go_grown)
          all_goals exact hK _ _ rfl (Gr.rfl' _)
        · intro wz hg
          rintro _ rfl _ rfl _ rfl _ rfl _ rfl _ rfl _ rfl _ rfl _ rfl _ rfl _ ⟨bC, rfl, hbC, hbk⟩
          simp only [finAll, Act.put, List.setIfInBounds_toArray, List.set_cons_succ, List.set_cons_zero, List.drop_succ_cons, List.drop_zero, List.take_zero]
          clear e0 d1 hk0 x0 x1 x2 x3 x4 hgt hgt2
          have z0 := hbk.cell 0 (v := .int .i64 0) rfl
          have z1 := hbk.cell 1 (v := .slice none 0 0) rfl
          have z2 := hbk.cell 2 (v := .slice none 0 0) rfl
          have z3 := hbk.cell 3 (v := .int .i64 0) rfl
          have z4 := hbk.cell 4 (v := .int .i64 0) rfl
          have f0 := hbk.open_ 0
          have f1 := hbk.open_ 1
          have f2 := hbk.open_ 2
          have f3 := hbk.open_ 3
          have f4 := hbk.open_ 4
          have hset := CnBlk.set5 hbk rfl x
          have hk5 : Gr wr (((((wz.setCell ⟨bC, 0, none⟩ (.int .i64 x.k)).setCell ⟨bC, 1, none⟩ (.slice x.vp x.vs.length x.vc)).setCell ⟨bC, 2, none⟩ (.slice x.cp x.cs.length x.cc)).setCell ⟨bC, 3, none⟩ (.int .i64 x.op)).setCell ⟨bC, 4, none⟩ (.int .i64 x.c)) := Below.trans hg ((Kp.sets5 (C := (· = bC)) rfl _ _ _ _ _).below (B := wr.heap.size) (fun b hb => by rw [hb]; exact hbC) hg.size)
          go_upto_region 5 with fail
          generalize (((((wz.setCell ⟨bC, 0, none⟩ (.int .i64 x.k)).setCell ⟨bC, 1, none⟩ (.slice x.vp x.vs.length x.vc)).setCell ⟨bC, 2, none⟩ (.slice x.cp x.cs.length x.cc)).setCell ⟨bC, 3, none⟩ (.int .i64 x.op)).setCell ⟨bC, 4, none⟩ (.int .i64 x.c)) = wC at *
          have HBC := Lib.hid hset
          have HK5 := Lib.hid hk5
          clear z0 z1 z2 z3 z4 f0 f1 f2 f3 f4 hset hk5 hbk hg
          obtain ⟨pq, hpq⟩ : ∃ pq : Option Addr, (if c' = 1 then some ⟨g, o, none⟩ else some ⟨g, o + 1, none⟩) = pq := ⟨_, rfl⟩
          have HRS2 := Lib.hid ((htl pq hpq.symm).gr HK5.out)
          have HPQ : Hid (∀ a, pq = some a → a.block < wr.heap.size) := fun a ha => by
            have hgl : g < wr.heap.size := World.block_lt_of_cell? _ _ hk0'
            rw [← hpq] at ha
            split at ha <;> (cases ha; exact hgl)
          have h1l : (1 : Int) ≤ (T2.length : Int) + 1 := by omega
          have HI2 := Lib.hid (hri.out.enter x.con)
          have HV := Lib.hid (vars_calls x wC (HXI.out.mono (Below.trans hrs.out.fam.gr (HK5.out.mono hrs.out.fam.gr.size))) (by have := ok_vars HXO.out; exact Nat.le_trans this (by omega)))
          obtain ⟨y0, y1, y2, y3, y4⟩ := HBC.out.cells
          clear htl hk0' hri
          go_upto_region 6 with fail
          clear hpq
          go_upto_region 7 with (first
            | (go_at_call 51; refine HV.out.mono ?_; rintro e1 wV ⟨lp, lc, l, rfl, hls, hlm, hlg, hlb, hll⟩; have HLS := Lib.hid hls; have HLM := Lib.hid hlm; have HLG := Lib.hid hlg; have HLB := Lib.hid hlb; have HLL := Lib.hid hll; clear hls hlm hlg hlb hll y0 y1 y2 y3 y4)
            | fail)
          have hBL := BlkT.new wV 40 #[.slice lp l.length lc]
          have gL : Gr wV (wV.alloc (.cells #[.slice lp l.length lc] 40)) := by go_grown
          generalize hwL : wV.alloc (.cells #[.slice lp l.length lc] 40) = wL at *
          clear hwL
          have HGL := Lib.hid (HLG.out.trans gL)
          have HDL : Hid (∀ D1 T1 p1 c1 w1, RS F w0 e dB p w.heap.size wA D1 T1 p1 c1 w1 → ∀ v ∈ x.vs, v.toNat < D1.length ∧ 0 ≤ v ∧ v < (D1.length : Int)) := fun D1 T1 p1 c1 w1 h v hv => by
            have h1 := Con.ok_var HXO.out hv
            have h2 := h.eng.len
            exact ⟨by omega, h1.1, by omega⟩
          have HRIB : Hid (RIB dB x l bC wV.heap.size lp lc pq wL) := ⟨HBC.out.gr HGL.out, hBL, HLS.out.mono gL, fun a ha h0 => by
            have h1 := HLB.out a ha h0
            obtain ⟨b', o', hp', hb', _⟩ := HLS.out.ptr (List.length_pos_iff.2 h0)
            rw [ha] at hp'
            cases hp'
            obtain ⟨u, hu⟩ := List.exists_mem_of_ne_nil l h0
            have h2 := (HDL.out _ _ _ _ _ HRS2.out u ((HLM.out u).1 hu)).1
            obtain ⟨vs0, hvs, _⟩ := HRS2.out.eng.row (by omega)
            have h3 : dB < wC.heap.size := hvs.lt
            refine ⟨fun e0 => by simp only at e0 h1; omega, Nat.lt_of_lt_of_le hb' gL.size, fun a' ha' e0 => ?_⟩
            have h4 := HPQ.out a' ha'
            have h5 := HK5.out.size
            simp only at e0 h1
            omega⟩
          have HRS3 := Lib.hid (HRS2.out.gr HGL.out)
          have b6 := hBL.cell 0 (v := .slice lp l.length lc) rfl
          have hllc := HLS.out.1
          have hlcc := HLS.out.2.1
          clear hBL gL
          go_upto_region 8 with fail
          clear b6
          go_loopg [1, 36] l.length (fun kk s1 i wi => ∃ j D1 T1 p1 c1, j ≤ l.length ∧ kk = l.length - j ∧ i = .int .i64 ((j : Nat) : Int) ∧ s1 = .slice p1 T1.length c1 ∧ Hid (RS F w0 e dB p w.heap.size wA D1 T1 p1 c1 wi) ∧ Hid (RIB dB x l bC wV.heap.size lp lc p1 wi) ∧ Hid (RedIn F.cons D D1 T1 k x.con (l.take j)) ∧ Hid (totD D1 * (F.C.length + 1) + T1.length + 1 ≤ totD D' * (F.C.length + 1) + (T2.length + 1)))
          case atStart => exact ⟨0, D', T2, pq, c' - 1, Nat.zero_le _, rfl, rfl, rfl, HRS3, HRIB, HI2.out, Nat.le_refl _⟩
          case round =>
            obtain ⟨j, D1, T1, p1, c1, hj, rfl, rfl, rfl, hrs1, hrib, hrin, hmeas⟩ := hrel
            by_cases hlt : j < l.length
            · obtain ⟨v, hv⟩ : ∃ v, l[j]? = some v := ⟨_, List.getElem?_eq_getElem hlt⟩
              obtain ⟨lb, lo, rfl, hlbl, hlr⟩ := hrib.out.ls.ptr (by omega)
              have c0 := hlr j v hv
              have hvl : v ∈ l := List.mem_of_getElem? hv
              have HVX := Lib.hid ((HLM.out v).1 hvl)
              have HVT : Hid (∀ u, u ∈ l.take (j + 1) → u ∈ v :: l.take j) := fun u hu => by
                rw [List.take_add_one, hv] at hu
                rcases List.mem_append.1 hu with h | h
                · exact List.mem_cons_of_mem _ h
                · rw [List.mem_singleton.1 h]; exact List.mem_cons_self ..
              clear hv hlr hvl
              go_upto_region 10 with fail
              have hBV := BlkT.new wr 3 #[.int .i64 v]
              have gV : Gr wr (wr.alloc (.cells #[.int .i64 v] 3)) := by go_grown
              have hVs : (wr.alloc (.cells #[.int .i64 v] 3)).heap.size = wr.heap.size + 1 := World.size_alloc _ _
              generalize hw9 : wr.alloc (.cells #[.int .i64 v] 3) = w9 at *
              clear hw9
              obtain ⟨bV, hbv⟩ : ∃ b, wr.heap.size = b := ⟨_, rfl⟩
              rw [hbv] at hBV ⊢
              have HBVS := Lib.hid (show bV < w9.heap.size by omega)
              replace hrs1 := Lib.hid (hrs1.out.gr gV)
              replace hrib := Lib.hid (hrib.out.gr gV)
              obtain ⟨dp1, dc1, -, -, d2, -, hdl1, hdl2, hdp⟩ := hrs1.out.eng.cells
              obtain ⟨hvt, hv0, hvN⟩ := HDL.out _ _ _ _ _ hrs1.out v HVX.out
              have hdp := hdp (by omega)
              subst hdp
              obtain ⟨vs1, hvs1, hrow1⟩ := hrs1.out.eng.row (by omega)
              obtain ⟨d, hd⟩ : ∃ d, D1[v.toNat]? = some d := ⟨_, List.getElem?_eq_getElem hvt⟩
              obtain ⟨dv, hdv, hdown⟩ := hrow1 _ d hd
              obtain ⟨rq, rc, rfl⟩ := hdown.form
              have r0 : w9.cell? ⟨dB, v.toNat, none⟩ = some (.slice rq d.length rc) := hvs1.cell _ hdv
              have hnear : ∀ y ∈ d, Near y := fun y hy => hrs1.out.eng.near d (List.mem_of_getElem? hd) y hy
              have hshort := hrs1.out.eng.short d (List.mem_of_getElem? hd)
              have hdom : dom D1 v = d := by rw [dom, List.getD_eq_getElem?_getD, hd]; rfl
              have HSL := Lib.hid (hdown.sl fun n hn => (hnear n hn).in64).2
              have HDOM := Lib.hid hdom
              have HD := Lib.hid hd
              have HDN := Lib.hid hnear
              have HSHT := Lib.hid hshort
              have HD64 : Hid (∀ n ∈ d, In64 n) := fun n hn => (hnear n hn).in64
              have HSH : Hid (d.length * 8 ≤ 140737488351232) := by show _ ≤ _; omega
              have e0 := hrs1.out.box.cell 0 (v := .pointer (some ⟨e, 0, none⟩)) rfl
              have v0 := hBV.cell 0 (v := .int .i64 v) rfl
              have HBV := Lib.hid hBV
              clear gV hBV hVs hdv hdown hvs1 hrow1 hd hnear hshort hdom c0 hlbl
              go_quiet (fail)
              go_upto_region 11 with fail
              have gq : Gr w9 (w9.drewN nq) := (Gr.rfl' _).drewN nq
              have HGQ := Lib.hid gq
              replace e0 := Gr.at gq e0
              replace d2 := Gr.at gq d2
              replace v0 := Gr.at gq v0
              replace r0 := Gr.at gq r0
              replace HSL := Lib.hid (HSL.out.mono gq)
              generalize w9.drewN nq = wq at *
              obtain ⟨fl, hfl⟩ : ∃ fl, d.filter (supB D1 x.con l v) = fl := ⟨_, rfl⟩
              have HFL : Hid ((d.filter fun n => !(fun n => !supB D1 x.con l v n) n) = fl) := by show _ = _; rw [← hfl]; exact List.filter_congr fun n _ => by simp
              have HFL2 := Lib.hid hfl
              have hrsq := hrs1.out.gr gq
              have hribq := hrib.out.gr gq
              have HPR := Lib.hid (red2_pred wq e x D1 F.N (HXI.out.mono hrsq.fam.gr) HXO.out hrsq.eng.len hrsq.eng.engD hrsq.eng.near l HLM.out v HVX.out w.heap.size bC wV.heap.size bV ⟨hrsq.box, hribq.bc, ⟨_, _, hribq.bl, hribq.ls⟩, HBV.out.gr gq⟩)
              have HRSQ := Lib.hid hrsq
              have HRIBQ := Lib.hid hribq
              clear gq hfl hrsq hribq
              refine wp_region_relyA 16 [fx (.pointer (some ⟨e, 0, none⟩)), fx (.pointer (some ⟨e, 0, none⟩)), fx (.pointer (some ⟨e, 2, none⟩)), fx (.slice (some ⟨dB, 0, none⟩) D1.length dc1), fx (.int .i64 v), fx (.pointer (some ⟨e, 0, none⟩)), fx (.pointer (some ⟨e, 0, none⟩)), fx (.pointer (some ⟨e, 2, none⟩)), fx (.slice (some ⟨dB, 0, none⟩) D1.length dc1), fx (.int .i64 v), fx (.pointer (some ⟨dB, v.toNat, none⟩)), fx (.slice rq d.length rc), slV, fx (.func (.func 53) #[] #[.pointer (some ⟨w.heap.size, 0, none⟩), .pointer (some ⟨bC, 0, none⟩), .pointer (some ⟨wV.heap.size, 0, none⟩), .pointer (some ⟨bV, 0, none⟩)]), slV, fx (.pointer (some ⟨dB, v.toNat, none⟩))]
                (Kp (wq.heap.size ≤ ·)) (DelJ wq.heap.size d fl) (by kernel_rfl) (by kernel_rfl) (by decide) (by kernel_rfl) (fun _ _ h => Kp.of_gr h) (fun _ _ _ h k => Kp.trans h (k.mono fun b hb => hb)) (fun w _ => DelJ.start _ _ _ _ _ w) (by repeat (first | exact StableR.nil | refine StableR.fix ?_ | refine StableR.cons (fun _ _ _ h _ => h) ?_)) ?_ ?_
              · refine ⟨stepA_plain (fun _ _ h => Kp.of_gr h) (fun listed a w w' v h hg => DelJ.other rfl listed a w w' v h hg) ?_, stepA_plain (fun _ _ h => Kp.of_gr h) (fun listed a w w' v h hg => DelJ.other rfl listed a w w' v h hg) ?_, stepA_plain (fun _ _ h => Kp.of_gr h) (fun listed a w w' v h hg => DelJ.other rfl listed a w w' v h hg) ?_, stepA_plain (fun _ _ h => Kp.of_gr h) (fun listed a w w' v h hg => DelJ.other rfl listed a w w' v h hg) ?_, stepA_plain (fun _ _ h => Kp.of_gr h) (fun listed a w w' v h hg => DelJ.other rfl listed a w w' v h hg) ?_, stepA_plain (fun _ _ h => Kp.of_gr h) (fun listed a w w' v h hg => DelJ.other rfl listed a w w' v h hg) ?_, stepA_plain (fun _ _ h => Kp.of_gr h) (fun listed a w w' v h hg => DelJ.other rfl listed a w w' v h hg) ?_, stepA_plain (fun _ _ h => Kp.of_gr h) (fun listed a w w' v h hg => DelJ.other rfl listed a w w' v h hg) ?_, stepA_plain (fun _ _ h => Kp.of_gr h) (fun listed a w w' v h hg => DelJ.other rfl listed a w w' v h hg) ?_, stepA_plain (fun _ _ h => Kp.of_gr h) (fun listed a w w' v h hg => DelJ.other rfl listed a w w' v h hg) ?_, stepA_plain (fun _ _ h => Kp.of_gr h) (fun listed a w w' v h hg => DelJ.other rfl listed a w w' v h hg) ?_, stepA_plain (fun _ _ h => Kp.of_gr h) (fun listed a w w' v h hg => DelJ.other rfl listed a w w' v h hg) ?_, ?a12, stepA_plain (fun _ _ h => Kp.of_gr h) (fun listed a w w' v h hg => DelJ.other rfl listed a w w' v h hg) ?_, ?a14, stepA_plain (fun _ _ h => Kp.of_gr h) (fun listed a w w' v h hg => DelJ.other rfl listed a w w' v h hg) ?_, trivial⟩
                case a12 =>
                  intro listed fr wr hj hl hpre hg hdef hold
                  have h2 : fr.tmps[2]?.getD undef = .pointer (some ⟨w.heap.size, 0, none⟩) := hold 2 rfl
                  have h5 : fr.tmps[5]?.getD undef = .pointer (some ⟨bC, 0, none⟩) := hold 5 rfl
                  have h6 : fr.tmps[6]?.getD undef = .pointer (some ⟨wV.heap.size, 0, none⟩) := hold 6 rfl
                  have h8 : fr.tmps[8]?.getD undef = .pointer (some ⟨bV, 0, none⟩) := hold 8 rfl
                  clear hold
                  have hgq : Gr wq wr := hg.below (fun _ h => h) (Nat.le_refl _)
                  have qe0 := Gr.at hgq e0
                  have qd2 := Gr.at hgq d2
                  have qv0 := Gr.at hgq v0
                  have qr0 := Gr.at hgq r0
                  clear hdef
                  simp [predsImp, Region.binds, dstAt, fx]
                  intros
                  rename_i K hK
                  go_simp
                  refine (clone_i64 rq rc d wr (HSL.out.mono hgq) HSH.out).mono ?_
                  rintro e1 w12 ⟨u, rfl, hu, hgu⟩
                  obtain ⟨uq, uc, rfl⟩ := hu.form
                  exact hK _ _ ⟨_, _, _, rfl⟩ (Kp.of_gr hgu) (hj.clone hgu (ownsRow_base hu hgq.size) hl)
                case a14 =>
                  intro listed fr wr hj hl hpre hg hdef hold
                  have h2 : fr.tmps[2]?.getD undef = .pointer (some ⟨w.heap.size, 0, none⟩) := hold 2 rfl
                  have h5 : fr.tmps[5]?.getD undef = .pointer (some ⟨bC, 0, none⟩) := hold 5 rfl
                  have h6 : fr.tmps[6]?.getD undef = .pointer (some ⟨wV.heap.size, 0, none⟩) := hold 6 rfl
                  have h8 : fr.tmps[8]?.getD undef = .pointer (some ⟨bV, 0, none⟩) := hold 8 rfl
                  clear hold
                  have hgq : Gr wq wr := hg.below (fun _ h => h) (Nat.le_refl _)
                  have qe0 := Gr.at hgq e0
                  have qd2 := Gr.at hgq d2
                  have qv0 := Gr.at hgq v0
                  have qr0 := Gr.at hgq r0
                  have h12 := hpre ⟨12, Ground.data⟩ (by simp) rfl
                  have hj1 := hj.1 h12 (getD_tf hl)
                  clear hdef
                  simp [predsImp, Region.binds, dstAt, fx]
                  intro hs1 hfn _
                  obtain ⟨uq, un, uc, hu⟩ := hs1
                  have hown := hj1 _ _ _ hu
                  intros
                  rename_i K hK
                  go_simp
                  refine (deleteFunc_i64 _ _ _ Near wq HPR.out wq.heap.size _ d wr hown HD64.out hgq (Nat.le_refl _) HDN.out).mono ?_
                  rintro e1 w14 ⟨v2, rfl, hv2, hkp2, hob2⟩
                  rw [HFL.out] at hv2
                  obtain ⟨q2, c2, rfl⟩ := hv2.form
                  exact hK _ _ ⟨_, _, _, rfl⟩ (hkp2.mono fun b hb => (ownsRow_type hown hb).2) (DelJ.del h12 hl hv2)
                all_goals
                  intro fr wr hg hold
                  have h2 : fr.tmps[2]?.getD undef = .pointer (some ⟨w.heap.size, 0, none⟩) := hold 2 rfl
                  have h5 : fr.tmps[5]?.getD undef = .pointer (some ⟨bC, 0, none⟩) := hold 5 rfl
                  have h6 : fr.tmps[6]?.getD undef = .pointer (some ⟨wV.heap.size, 0, none⟩) := hold 6 rfl
                  have h8 : fr.tmps[8]?.getD undef = .pointer (some ⟨bV, 0, none⟩) := hold 8 rfl
                  clear hold
                  have hgq : Gr wq wr := hg.below (fun _ h => h) (Nat.le_refl _)
                  have qe0 := Gr.at hgq e0
                  have qd2 := Gr.at hgq d2
                  have qv0 := Gr.at hgq v0
                  have qr0 := Gr.at hgq r0
                  simp [predsImp, Region.binds, dstAt, fx]
                  intros
                  rename_i K hK
                  go_simp
                all_goals exact hK _ _ rfl (Gr.rfl' _)
              · intro wz hg
                rintro _ rfl _ rfl _ rfl _ rfl _ rfl _ rfl _ rfl _ rfl _ rfl _ rfl _ rfl _ rfl _ ⟨q60, n60, c60, rfl⟩ _ rfl _ ⟨q62, n62, c62, rfl⟩ _ rfl hj2
                simp only [Act.put, List.setIfInBounds_toArray, List.set_cons_succ, List.set_cons_zero, List.drop_succ_cons, List.drop_zero] at hj2 ⊢
                have hfo := hj2.done (by show 14 < 16; omega) q62 n62 c62 rfl
                have hgz : Gr wq wz := hg.below (fun _ h => h) (Nat.le_refl _)
                have hfln : ∀ y ∈ fl, Near y := fun y hy => HDN.out y (by have h1 := HFL2.out; rw [← h1] at hy; exact (List.mem_filter.1 hy).1)
                have hfll : fl.length ≤ d.length := by have h1 := HFL2.out; rw [← h1]; exact List.length_filter_le _ _
                obtain ⟨rfl, hfsl⟩ := hfo.sl fun n hn => (hfln n hn).in64
                have HRSZ := Lib.hid (HRSQ.out.gr hgz)
                have HRIBZ := Lib.hid (HRIBQ.out.gr hgz)
                have hbvz := (HBV.out.gr (HGQ.out.trans hgz)).cell 0 (v := .int .i64 v) rfl
                obtain ⟨vsz, hvsz, hrowz⟩ := HRSZ.out.eng.row (by omega)
                obtain ⟨dvz, hdvz, _⟩ := hrowz _ d HD.out
                have zc := hvsz.cell _ hdvz
                have zf := hvsz.open_ v.toNat
                have hfob := ownsRow_base hfo (show w0.heap.size ≤ wq.heap.size from HRSQ.out.fam.gr.size)
                have HRS4 := Lib.hid (HRSZ.out.store HF.out hvt hfob hfln (by have := HSHT.out; omega))
                have HRIB4 := Lib.hid (HRIBZ.out.store (i := v.toNat) (v := .slice q62 fl.length c62) (.of hvsz))
                have hbvdB : ¬ bV = dB := OfT.ne (.of (HBV.out.gr (HGQ.out.trans hgz))) (.of hvsz) (by decide)
                have v4 := Kp.cell (Kp.set (C := (· = dB)) (b := dB) (o := v.toNat) (v := .slice q62 fl.length c62) rfl) hbvz hbvdB
                have r4 : (wz.setCell ⟨dB, v.toNat, none⟩ (.slice q62 fl.length c62)).cell? ⟨dB, v.toNat, none⟩ = some (.slice q62 fl.length c62) := (hvsz.set v.toNat _).cell _ (Array.getElem?_setIfInBounds_self_of_lt (Array.getElem?_eq_some_iff.1 hdvz).1)
                have hfc := hfsl.1
                have hfc2 := hfsl.2.1
                clear hj2 hfo hgz hfln hfsl hbvz hvsz hrowz hdvz hfob hbvdB e0 d2 v0 r0 hg
                go_upto_region 12 with fail
                generalize wz.setCell ⟨dB, v.toNat, none⟩ (.slice q62 fl.length c62) = wS at *
                have e0 := HRS4.out.box.cell 0 (v := .pointer (some ⟨e, 0, none⟩)) rfl
                obtain ⟨dp4, dc4, -, -, d2, -, hdl4, hdl5, hdp4⟩ := HRS4.out.eng.cells
                rw [List.length_set] at d2 hdl4 hdp4
                have hdp4 := hdp4 (by omega)
                subst hdp4
                clear zc zf
                go_quiet (fail)
                have gq : Gr wS (wS.drewN nq) := (Gr.rfl' _).drewN nq
                replace HRS4 := Lib.hid (HRS4.out.gr gq)
                replace HRIB4 := Lib.hid (HRIB4.out.gr gq)
                replace e0 := Gr.at gq e0
                replace d2 := Gr.at gq d2
                replace v4 := Gr.at gq v4
                replace r4 := Gr.at gq r4
                generalize wS.drewN nq = wS at *
                clear gq
                have HSETD := Lib.hid (show D1.set v.toNat fl = D1.set v.toNat ((dom D1 v).filter (supB D1 x.con l v)) by rw [HDOM.out, HFL2.out])
                have HCC := Lib.hid (show x.con ∈ F.cons from List.mem_of_getElem? HXC.out)
                have HLEN1 := Lib.hid (show D1.length = F.N by have := HRS4.out.eng.len; rw [List.length_set] at this; exact this)
                by_cases hz : fl.length = 0
                · have hb0 : ((fl.length : Int) == 0) = true := beq_iff_eq.2 (by omega)
                  have HNo := Lib.hid (hrin.out.none HCC.out HXO.out HLEN1.out HLM.out HVX.out (by rw [HDOM.out, HFL2.out]; exact List.eq_nil_of_length_eq_zero hz))
                  go_wp2_with fail
                  exact hRf.out _ HRS4.out.fam ((Kp.of_gr HG.out).trans HRS4.out.kp) HNo.out
                · have hb0 : ((fl.length : Int) == 0) = false := beq_eq_false_iff_ne.2 (by omega)
                  have HNE2 := Lib.hid (show (dom D1 v).filter (supB D1 x.con l v) ≠ [] by rw [HDOM.out, HFL2.out]; intro h0; rw [h0] at hz; exact hz rfl)
                  clear hz
                  go_upto_region 14 with fail
                  clear hb0
                  go_quiet (fail)
                  have gq : Gr wS (wS.drewN nq) := (Gr.rfl' _).drewN nq
                  replace HRS4 := Lib.hid (HRS4.out.gr gq)
                  replace HRIB4 := Lib.hid (HRIB4.out.gr gq)
                  replace e0 := Gr.at gq e0
                  replace d2 := Gr.at gq d2
                  replace v4 := Gr.at gq v4
                  replace r4 := Gr.at gq r4
                  generalize wS.drewN nq = wS at *
                  clear gq
                  by_cases hless : fl.length < d.length
                  · have hb1 : decide ((fl.length : Int) < (d.length : Int)) = true := decide_eq_true (by omega)
                    have HLESS := Lib.hid hless
                    clear hless
                    go_upto_region 15 with fail
                    clear hb1 r4 d2
                    obtain ⟨-, -, -, -, -, d3, -, -, -⟩ := HRS4.out.eng.cells
                    obtain ⟨u, hu⟩ : ∃ u, F.U[v.toNat]? = some u := ⟨_, List.getElem?_eq_getElem (by rw [HF.out.uses.1, ← HLEN1.out]; exact hvt)⟩
                    have hUd : dom F.U v = u := by rw [dom, List.getD_eq_getElem?_getD, hu]; rfl
                    have HUD := Lib.hid hUd
                    have HUV : Hid (∀ z ∈ u, 0 ≤ z ∧ z < (F.C.length : Int)) := fun z hz => by
                      have h1 := (HF.out.uses.2 v.toNat (by rw [← HLEN1.out]; exact hvt)).2 z
                      rw [show F.U.getD v.toNat [] = u from hUd] at h1
                      obtain ⟨h2, cc2, h3, _⟩ := h1.1 hz
                      have h4 := (List.getElem?_eq_some_iff.1 h3).1
                      rw [Fam.cons, List.length_map] at h4
                      exact ⟨h2, by omega⟩
                    have HU64 : Hid (∀ z ∈ u, In64 z) := fun z hz => by have := HUV.out z hz; have := HF.out.few; exact ⟨by omega, by omega⟩
                    obtain ⟨pu, cu, hvu, hsh⟩ := TodoM.shared HF.out HRS4.out.fam hu HU64.out
                    obtain ⟨ucells, hub, huc⟩ := HRS4.out.fam.blk
                    have u0 := hub.cell _ (huc _ _ hvu)
                    have hulc := hsh.sl.1
                    have hucm := hsh.sl.2.1
                    have hvN2 : v < (F.N : Int) := by have := HLEN1.out; omega
                    have hNc := HF.out.fewN
                    have hNc1 := hNc.2.1
                    have hNc2 := hNc.2.2
                    have HVU := Lib.hid hvu
                    have HU := Lib.hid hu
                    clear hvu hsh hub huc hu hUd hNc
                    go_quiet (fail)
                    have gq : Gr wS (wS.drewN nq) := (Gr.rfl' _).drewN nq
                    replace HRS4 := Lib.hid (HRS4.out.gr gq)
                    replace HRIB4 := Lib.hid (HRIB4.out.gr gq)
                    clear e0 v4 d3 u0
                    generalize wS.drewN nq = wS at *
                    clear gq
                    go_upto_region 16 with fail
                    go_loopg [1, 91] u.length (fun kk s1 i wl => ∃ jj T3 p3 c3, jj ≤ u.length ∧ kk = u.length - jj ∧ i = .int .i64 ((jj : Nat) : Int) ∧ s1 = .slice p3 T3.length c3 ∧ Hid (RS F w0 e dB p w.heap.size wA (D1.set v.toNat fl) T3 p3 c3 wl) ∧ Hid (RIB dB x l bC wV.heap.size (some ⟨lb, lo, none⟩) lc p3 wl) ∧ Hid (∀ z ∈ T1, z ∈ T3) ∧ Hid (∀ i z, i < jj → u[i]? = some z → z ∈ T3))
                    case atStart => exact ⟨0, T1, p1, c1, Nat.zero_le _, rfl, rfl, rfl, HRS4, HRIB4, fun _ h => h, fun i _ hi => by omega⟩
                    case round =>
                      obtain ⟨jj, T3, p3, c3, hjj, rfl, rfl, rfl, hrs5, hrib5, hsub, hall⟩ := hrel
                      clear HRS4 HRIB4
                      by_cases hlt3 : jj < u.length
                      · obtain ⟨z, hz⟩ : ∃ z, u[jj]? = some z := ⟨_, List.getElem?_eq_getElem hlt3⟩
                        obtain ⟨ub, uo, rfl, _, hur⟩ := (FamW.useSl hrs5.out.fam HVU.out HU.out HU64.out).ptr (by omega)
                        have c0 := hur jj z hz
                        have HZV := Lib.hid (HUV.out z (List.mem_of_getElem? hz))
                        have hzin := HU64.out z (List.mem_of_getElem? hz)
                        have HZ := Lib.hid hz
                        have Hct := Lib.hid (contains_int p3 c3 T3 z wr hrs5.out.todo.sl)
                        obtain ⟨bb, hbb⟩ : ∃ bb, (T3.any fun x => z == x) = bb := ⟨_, rfl⟩
                        rw [hbb] at Hct
                        have HBB := Lib.hid hbb
                        clear hur hz hbb
                        cases bb with
                        | true =>
                          have HMem : Hid (z ∈ T3) := by
                            show z ∈ T3
                            obtain ⟨y, hy, he⟩ := List.any_eq_true.1 HBB.out
                            rw [beq_iff_eq.1 he]; exact hy
                          have HAll2 : Hid (∀ i y, i < jj + 1 → u[i]? = some y → y ∈ T3) := fun i y hi hy => by
                            by_cases hij : i = jj
                            · subst hij; rw [HZ.out] at hy; cases hy; exact HMem.out
                            · exact hall.out i y (by omega) hy
                          go_wp2_with (first
                            | (go_at_call 49; refine Hct.out.mono ?_; rintro e1 w15 ⟨rfl, hb⟩; replace hrs5 := Lib.hid (hrs5.out.gr (show Gr wr w15 from hb)); replace hrib5 := Lib.hid (hrib5.out.gr (show Gr wr w15 from hb)); clear hb c0)
                            | fail)
                          go_roundg (u.length - (jj + 1))
                          case measure => omega
                          case rel => exact ⟨jj + 1, T3, p3, c3, by omega, rfl, by go_num, rfl, hrs5, hrib5, hsub, HAll2⟩
                        | false =>
                          have HNM : Hid (z ∉ T3) := fun hm => by
                            have h1 := HBB.out
                            rw [List.any_eq_false] at h1
                            exact h1 z hm (by simp)
                          go_upto_region 19 with (first
                            | (go_at_call 49; refine Hct.out.mono ?_; rintro e1 w15 ⟨rfl, hb⟩; replace hrs5 := Lib.hid (hrs5.out.gr (show Gr wr w15 from hb)); replace hrib5 := Lib.hid (hrib5.out.gr (show Gr wr w15 from hb)); clear hb c0)
                            | fail)
                          have gb : Gr w15 (w15.alloc (.cells #[.int .i64 z] 3)) := by go_grown
                          have hbz : (w15.alloc (.cells #[.int .i64 z] 3)).cell? ⟨w15.heap.size, 0, none⟩ = some (.int .i64 z) := (BlkT.new w15 3 #[.int .i64 z]).cell 0 rfl
                          obtain ⟨p4, c4, w16, hrun, hrs6, hkp6, hbl6⟩ := (hrs5.out.gr gb).push HF.out HZV.out HNM.out 40 w15.heap.size 1 hbz
                          have hrib6 := (hrib5.out.gr gb).push hkp6 (fun y hy => ⟨hy.1, hy.2.2⟩) hbl6
                          have HR := Lib.hid hrun
                          have HRS6 := Lib.hid hrs6
                          have HRIB6 := Lib.hid hrib6
                          have HSub2 : Hid (∀ y ∈ T1, y ∈ T3 ++ [z]) := fun y hy => List.mem_append_left _ (hsub.out y hy)
                          have HAll2 : Hid (∀ i y, i < jj + 1 → u[i]? = some y → y ∈ T3 ++ [z]) := fun i y hi hy => by
                            by_cases hij : i = jj
                            · subst hij; rw [HZ.out] at hy; cases hy; simp
                            · exact List.mem_append_left _ (hall.out i y (by omega) hy)
                          clear gb hbz hrun hrs6 hkp6 hbl6 hrib6
                          go_wp2_with (first
                            | (at_builtin; refine wpList_append_run _ rfl _ _ _ _ rfl _ _ (by rfl) (by rfl) _ _ HR.out ?_)
                            | fail)
                          go_roundg (u.length - (jj + 1))
                          case measure => omega
                          case rel => exact ⟨jj + 1, T3 ++ [z], p4, c4, by omega, rfl, by go_num, by rw [List.length_append]; rfl, HRS6, HRIB6, HSub2, HAll2⟩
                      · obtain rfl : jj = u.length := by omega
                        have HI8 : Hid (RedIn F.cons D (D1.set v.toNat fl) T3 k x.con (l.take (j + 1))) := by
                          have h1 := RedIn.less (U := F.U) (N := F.N) (todo' := T3) hrin.out hkv0 HXC.out HXO.out (fun c2 hc2 => by
                            obtain ⟨y, hy, rfl⟩ := List.mem_map.1 hc2
                            exact HF.out.oks y hy) HLEN1.out HLM.out HVX.out HF.out.uses HNE2.out hsub.out (fun z hz => by
                            rw [HUD.out] at hz
                            obtain ⟨i, hi⟩ := List.getElem?_of_mem hz
                            exact hall.out i z (List.getElem?_eq_some_iff.1 hi).1 hi)
                          rw [← HSETD.out] at h1
                          exact h1.part HVT.out
                        have HM8 : Hid (totD (D1.set v.toNat fl) * (F.C.length + 1) + T3.length + 1 ≤ totD D' * (F.C.length + 1) + (T2.length + 1)) := by
                          show _ ≤ _
                          have h1 : totD (D1.set v.toNat fl) < totD D1 := totD_set (by rw [List.getD_eq_getElem?_getD, HD.out]; exact HLESS.out)
                          have h2 := hrs5.out.len
                          have h3 := hmeas.out
                          have h4 : (totD (D1.set v.toNat fl) + 1) * (F.C.length + 1) ≤ totD D1 * (F.C.length + 1) := Nat.mul_le_mul_right _ h1
                          rw [Nat.add_mul] at h4
                          omega
                        go_wp2_with fail
                        go_roundg (l.length - (j + 1))
                        case measure => omega
                        case rel => exact ⟨j + 1, _, T3, p3, c3, by omega, rfl, by go_num, rfl, hrs5, hrib5, HI8, HM8⟩
                  · have hb1 : decide ((fl.length : Int) < (d.length : Int)) = false := decide_eq_false (by omega)
                    have HEQ : Hid (fl = d) := by
                      show _ = _
                      have h1 := HFL2.out
                      have h2 : (d.filter (supB D1 x.con l v)).length = d.length := by rw [h1]; omega
                      rw [← h1]
                      exact List.filter_eq_self.2 (fun y hy => List.length_filter_eq_length_iff.1 h2 y hy)
                    have HDD : Hid (D1.set v.toNat fl = D1) := by show _ = _; rw [HEQ.out, ← HDOM.out]; exact set_self hvt
                    have HI8 : Hid (RedIn F.cons D (D1.set v.toNat fl) T1 k x.con (l.take (j + 1))) := by
                      rw [HDD.out]
                      exact (hrin.out.all HXO.out HLM.out HVX.out (by rw [HDOM.out, HFL2.out, HEQ.out])).part HVT.out
                    have HM8 : Hid (totD (D1.set v.toNat fl) * (F.C.length + 1) + T1.length + 1 ≤ totD D' * (F.C.length + 1) + (T2.length + 1)) := by show _ ≤ _; rw [HDD.out]; exact hmeas.out
                    clear e0 d2 v4 r4
                    go_wp2_with fail
                    go_roundg (l.length - (j + 1))
                    case measure => omega
                    case rel => exact ⟨j + 1, _, T1, p1, c1, by omega, rfl, by go_num, rfl, HRS4, HRIB4, HI8, HM8⟩
            · obtain rfl : j = l.length := by omega
              have HI9 := Lib.hid (hrin.out.leave hkv0 HXC.out (fun u hu => by rw [List.take_length]; exact (HLM.out u).2 hu))
              have hm9 := hmeas.out
              clear HRS3 HRIB HI2
              go_wp2_with fail
              go_roundg (totD D1 * (F.C.length + 1) + T1.length)
              case measure => rw [List.length_cons]; omega
              case rel => exact ⟨D1, T1, p1, c1, rfl, rfl, hrs1, HI9⟩
end Go.Proofs.Ytbapmokbkjmdcaa
