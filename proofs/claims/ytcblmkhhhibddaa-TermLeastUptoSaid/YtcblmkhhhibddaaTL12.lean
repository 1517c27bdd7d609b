/-
  term.Map and term.Renamed at terms whose variables' numbers may be a little larger than a formed term's.
-/
import Derived.Test.YtcblmkhhhibddaaTL11
namespace Go.Proofs.Ytcblmkhhhibddaa
open Go.RowKit

mutual
def T.fmd : T → Bool
  | .mk k n s l =>
    if k = 1 then decide (0 ≤ n) && decide (n ≤ 1099515822080) && decide (s = []) && decide (l.length = 0)
    else if k = 2 then decide (s = []) && decide (l.length = 0)
    else if k = 3 then decide (n = 0) && decide (s.length ≤ 100) && decide (l.length = 0)
    else if k = 4 then decide (n = 0) && decide (s.length ≤ 100) && decide (1 ≤ l.length) && decide (l.length ≤ 50) && T.fmdL l
    else false
def T.fmdL : List T → Bool
  | [] => true
  | x :: xs => T.fmd x && T.fmdL xs
end

theorem fmd_args {k n : Int} {s : List UInt8} {l : List T} (h : (T.mk k n s l).fmd = true) : (k = 4 ∧ T.fmdL l = true) ∨ (k ≠ 4 ∧ l = []) := by
  rw [T.fmd] at h
  by_cases h1 : k = 1
  · subst h1
    simp at h
    exact .inr ⟨by decide, h.2⟩
  · by_cases h2 : k = 2
    · subst h2
      simp at h
      exact .inr ⟨by decide, h.2⟩
    · by_cases h3 : k = 3
      · subst h3
        simp at h
        exact .inr ⟨by decide, h.2⟩
      · by_cases h4 : k = 4
        · subst h4
          simp at h
          exact .inl ⟨rfl, h.2⟩
        · simp [h1, h2, h3, h4] at h

mutual
theorem T.vars_withinB : ∀ (t : T) (V : List Int), t.fmd = true → T.within (T.vars t V) t
  | .mk k n s l, V, h => by
    rw [T.within]
    by_cases h1 : k = 1
    · subst h1
      rcases fmd_args h with ⟨h4, _⟩ | ⟨_, rfl⟩
      · cases h4
      · refine ⟨fun _ => ?_, by rw [T.withinL]; trivial⟩
        rw [T.vars, if_pos rfl]
        split
        · assumption
        · simp
    · rw [T.vars, if_neg h1]
      refine ⟨fun e => absurd e h1, ?_⟩
      rcases fmd_args h with ⟨_, hl⟩ | ⟨_, rfl⟩
      · exact T.varsL_withinB l V hl
      · rw [T.withinL]; trivial
theorem T.varsL_withinB : ∀ (l : List T) (V : List Int), T.fmdL l = true → T.withinL (T.varsL l V) l
  | [], V, _ => by rw [T.withinL]; trivial
  | x :: xs, V, h => by
    rw [T.fmdL, Bool.and_eq_true] at h
    rw [T.withinL, T.varsL]
    exact ⟨T.within_mono (fun n hn => (T.varsL_prefix xs _).subset hn) (T.vars_withinB x V h.1), T.varsL_withinB xs _ h.2⟩
end

def VarsOkB (V : List Int) : Prop := V.Nodup ∧ ∀ n ∈ V, 0 ≤ n ∧ n ≤ 1099515822080

theorem VarsOkB.len {V : List Int} (h : VarsOkB V) : V.length ≤ 1099515822081 := by
  have h1 : V.Nodup := h.1
  have h2 : V ⊆ (List.range 1099515822081).map (fun i : Nat => (i : Int)) := by
    intro n hn
    have := h.2 n hn
    rw [List.mem_map]
    exact ⟨n.toNat, List.mem_range.2 (by omega), by omega⟩
  have h3 := h1.length_le_of_subset h2
  rw [List.length_map, List.length_range] at h3
  exact h3

theorem VarsOkB.nil : VarsOkB [] := ⟨List.nodup_nil, fun _ h => by cases h⟩

theorem fmd_var {n : Int} {s : List UInt8} {l : List T} (h : (T.mk 1 n s l).fmd = true) : (0 ≤ n ∧ n ≤ 1099515822080) ∧ s = [] ∧ l = [] := by
  rw [T.fmd] at h
  simp at h
  exact ⟨h.1.1, h.1.2, h.2⟩

theorem VarsOkB.one {V : List Int} (h : VarsOkB V) {n : Int} (hn : 0 ≤ n ∧ n ≤ 1099515822080) : VarsOkB (if n ∈ V then V else V ++ [n]) := by
  split
  · exact h
  · rename_i hm
    refine ⟨?_, fun k hk => ?_⟩
    · rw [List.nodup_append]
      exact ⟨h.1, by simp, fun a ha b hb => by rw [List.mem_singleton] at hb; subst hb; exact fun e => hm (e ▸ ha)⟩
    · rcases List.mem_append.1 hk with hk | hk
      · exact h.2 k hk
      · rw [List.mem_singleton] at hk; exact hk ▸ hn

mutual
theorem VarsOkB.vars : ∀ (t : T) {V : List Int}, VarsOkB V → t.fmd = true → VarsOkB (T.vars t V)
  | .mk k n s l, V, h, hf => by
    rw [T.vars]
    by_cases h1 : k = 1
    · subst h1
      rw [if_pos rfl]
      exact h.one (fmd_var hf).1
    · rw [if_neg h1]
      rcases fmd_args hf with ⟨_, hl⟩ | ⟨_, rfl⟩
      · exact VarsOkB.varsL l h hl
      · rw [T.varsL]; exact h
theorem VarsOkB.varsL : ∀ (l : List T) {V : List Int}, VarsOkB V → T.fmdL l = true → VarsOkB (T.varsL l V)
  | [], V, h, _ => by rw [T.varsL]; exact h
  | x :: xs, V, h, hf => by
    rw [T.fmdL, Bool.and_eq_true] at hf
    rw [T.varsL]
    exact VarsOkB.varsL xs (VarsOkB.vars x h hf.1) hf.2
end

theorem VarsOkB.in64 {V : List Int} (h : VarsOkB V) : ∀ n ∈ V, In64 n := fun n hn => by have := h.2 n hn; exact ⟨by omega, by omega⟩

theorem fmdL_false {l : List Tm} {x : Tm} (h : x ∈ l) (hx : x.erase.fmd = false) : T.fmdL (Tm.eraseL l) = false := by
  induction l with
  | nil => simp at h
  | cons y ys ih =>
    rw [Tm.eraseL, T.fmdL]
    rcases List.mem_cons.1 h with rfl | h
    · rw [hx]; rfl
    · rw [ih h, Bool.and_false]

theorem fmd_elem {k n : Int} {s : ByteArray} {p : Option Addr} {c : Nat} {l : List Tm} (hk : k = 4) (h : (Tm.mk k n s p c l).erase.fmd = true) : n = 0 ∧ s.size ≤ 100 ∧ 1 ≤ l.length ∧ l.length ≤ 50 ∧ ∀ x ∈ l, x.erase.fmd = true := by
  subst hk
  simp only [Tm.erase, T.fmd, Tm.eraseL_length, toList_length] at h
  simp at h
  obtain ⟨⟨⟨⟨h1, h2⟩, h3⟩, h4⟩, h5⟩ := h
  refine ⟨h1, h2, h3, h4, ?_⟩
  intro x hx
  cases hf : x.erase.fmd with
  | true => rfl
  | false => rw [fmdL_false hx hf] at h5; cases h5

theorem fmdL_erase {l : List Tm} (h : ∀ x ∈ l, x.erase.fmd = true) : T.fmdL (Tm.eraseL l) = true := by
  induction l with
  | nil => rw [Tm.eraseL, T.fmdL]
  | cons x xs ih =>
    rw [Tm.eraseL, T.fmdL, h x (List.mem_cons_self ..), ih fun y hy => h y (List.mem_cons_of_mem _ hy)]
    rfl

theorem mapLB_step (l : List Tm) (hf : ∀ x ∈ l, x.erase.fmd = true) (k : Nat) (hk : k < l.length) (d : Int) (V : List Int) :
    T.mapL (swapF d (T.varsL (Tm.eraseL (l.take (k + 1))) V)) (Tm.eraseL (l.take (k + 1))) =
      T.mapL (swapF d (T.varsL (Tm.eraseL (l.take k)) V)) (Tm.eraseL (l.take k)) ++ [T.map (swapF d (T.vars l[k].erase (T.varsL (Tm.eraseL (l.take k)) V))) l[k].erase] := by
  rw [T.mapL_erase _ l k hk, varsL_step l k hk V]
  congr 1
  exact T.mapL_swap (T.vars_prefix _ _) (T.varsL_withinB _ _ (fmdL_erase fun x hx => hf x (List.mem_of_mem_take hx)))

set_option maxHeartbeats 1000000 in
set_option maxRecDepth 100000 in
theorem mapRenB_var (d : Int) (V : List Int) (n : Int) (s : ByteArray) (p : Option Addr) (c : Nat) (l : List Tm) (N M F : Nat) (w : World) (hn : 0 ≤ n ∧ n ≤ 1099515822080) (hd : 0 ≤ d ∧ d ≤ 1099515822081) (hV : VarsOkB V) (h : RenSt d V N M F w) :
    Calls Try.prog 136 #[(Tm.mk 1 n s p c l).val, .func (.func 146) #[] #[.pointer (some ⟨N, 0, none⟩), .pointer (some ⟨F, 0, none⟩)]] w fun e w' =>
      e = .returned (varTm (d + ((withVar V n).idxOf n : Int))).val ∧ RenSt d (withVar V n) N M F w' ∧ Kp (MF M F) w w' := by
  generalize hQ : (fun (e : Ending) (w' : World) => e = .returned (varTm (d + ((withVar V n).idxOf n : Int))).val ∧ RenSt d (withVar V n) N M F w' ∧ Kp (MF M F) w w') = Q
  have hR : Hid (∀ w', RenSt d (withVar V n) N M F w' → Kp (MF M F) w w' → Q (.returned (varTm (d + ((withVar V n).idxOf n : Int))).val) w') := fun w' h1 h2 => by rw [← hQ]; exact ⟨rfl, h1, h2⟩
  clear hQ
  have hlen := hV.len
  obtain ⟨hlN, hlM, hlF⟩ := h.lts
  have hen : ∀ args w, (callFunc 146 args).run Try.prog w = .ok (.enter 146 args) w := fun args w => by kernel_rfl
  have hc := Lib.hid (fun W (hW : Gr w W) => rename1_calls d V N M F n W (h.gr hW) ⟨by omega, by omega⟩ ⟨⟨by omega, by omega⟩, by omega, by omega⟩ (by unfold maxLen; omega))
  clear h
  generalize d + ((withVar V n).idxOf n : Int) = m at *
  simp only [Tm.val, Tm.k, Tm.n, Tm.s, Tm.p, Tm.c, Tm.l]
  go_enter Try.func136, Try.ntmps136
  try simp only [List.append_eq, List.cons_append, List.nil_append]
  go_upto_region 1 with fail
  obtain ⟨HB, HR, gA⟩ := two_blocks w (.int .i64 1) (.int .i64 n) (.string s) (.slice p l.length c) (.int .i64 0) (.int .i64 0) (.string ⟨#[]⟩) (.slice none 0 0)
  generalize (w.alloc (.cells #[.int .i64 1, .int .i64 n, .string s, .slice p l.length c] 25)).alloc (.cells #[.int .i64 0, .int .i64 0, .string ⟨#[]⟩, .slice none 0 0] 25) = wA at *
  obtain ⟨⟨b0, b1, b2, b3⟩, _, _⟩ := HB.out.parts
  go_wp2_with (first
    | (go_at_call 146; refine (hc.out _ gA).mono ?_; rintro e w' ⟨rfl, hs, hk⟩; rewrite [varTm_val]; have HS := Lib.hid hs; have HK := Lib.hid hk; obtain ⟨⟨y0, y1, y2, y3⟩, ⟨f0, f1, f2, f3⟩, hlt⟩ := (HR.out.kp hk (by omega)).parts; clear hs hk b0 b1 b2 b3)
    | fail)
  refine bodyPost_ret (v := (varTm m).val) (by simp [results, Try.results136, go_sem, varTm, Tm.val, Tm.k, Tm.n, Tm.s, Tm.p, Tm.c, Tm.l, y0, y1, y2, y3]) rfl ?_
  exact hR.out _ (HS.out.kp (Kp.set4 (C := fun b => b = w.heap.size + 1) rfl) (by omega) (by omega) (by omega))
    ((((Kp.of_gr gA).trans (HK.out.mono (C' := fun b => MF M F b ∨ b = w.heap.size + 1) fun _ h => .inl h)).trans (Kp.set4 (.inr rfl))).weaken fun b hb hc => hc.resolve_right (by omega))

set_option maxHeartbeats 4000000 in
set_option maxRecDepth 100000 in
theorem mapWB_any (N : Nat) : ∀ (t : Tm) (fv : Value) (f : Int → T) (w : World), SizeOf.sizeOf t ≤ N → t.In w → t.erase.fmd = true → MapFnW fv f w →
    Calls Try.prog 136 #[t.val, fv] w (RetTmW (w.heap.size ≤ ·) (T.map f t.erase) w) := by
  induction N with
  | zero => intro t fv f w h; cases t; simp at h
  | succ N ih =>
    intro t fv f w hN h hfm hf
    obtain ⟨k, n, s, p, c, l⟩ := t
    by_cases hk1 : k = 1
    · subst hk1
      rw [Tm.erase, T.map, if_pos rfl]
      exact mapW_var n s p c l fv f w h hf
    by_cases hk4 : k = 4
    · subst hk4
      obtain ⟨rfl, h100, hl1, hl50, hfl⟩ := fmd_elem rfl hfm
      have hsz := fun x (hx : x ∈ l) => Tm.sizeOf_mem hx 4 0 s p c
      have HT := Lib.hid h
      have HSl := Lib.hid h.sl
      rw [Tm.In] at h
      obtain ⟨hk, hn, hs, hlc, hc, hp, hIn⟩ := h
      obtain ⟨b, o, rfl⟩ := HSl.out.ptr (by omega)
      have hbl : b < w.heap.size := Tm.row_lt (by rcases hp with rfl | ⟨b', o', he, hr⟩; · simp at hl1
                                                  · cases he; exact hr) (by rintro rfl; simp at hl1)
      obtain ⟨fid, cap, rfl, hq, hcall⟩ := hf
      have Hf : Hid (MapFnW (.func (.func fid) #[] cap) f w) := ⟨fid, cap, rfl, hq, hcall⟩
      have Hih := Lib.hid ih
      have Hsz := Lib.hid hsz
      have Hfl := Lib.hid hfl
      have Hs := Lib.hid hs
      clear hp hIn hcall hq ih hsz hfl hk hn hfm
      obtain ⟨i0, hi, hz0, hz1, hz2⟩ := info_parts infoTermM
      have Hi := Lib.hid hi
      clear hi
      rw [Tm.erase, T.map, if_neg (by decide), if_pos rfl]
      simp only [Tm.val, Tm.k, Tm.n, Tm.s, Tm.p, Tm.c, Tm.l]
      go_enter Try.func136, Try.ntmps136
      go_wp2_with
        (refine wpList_make_full _ rfl _ _ 23 rfl (w.heap.size) 25 i0 _ 4 Try.underlying23 Hi.out hz0 hz1 .i64 .i64 _ _ l.length rfl rfl rfl rfl (by rw [hz2]; omega) (by simp only [maxLen]; omega) (by simp; omega) ?_
         intro w1 hown hgrow
         have HF := fill_made (S := fun _ => False) hown
         have HA := (after_make hgrow).2
         obtain ⟨⟨b0, b1, b2, b3⟩, _, _⟩ := (after_make hgrow).1.parts
         clear hown hgrow)
      obtain ⟨HB, HR, g1⟩ := HA.out
      replace HB := Lib.hid HB
      replace HR := Lib.hid HR
      have hg2 : w.heap.size + 1 + 1 < w1.heap.size := HF.out.lt
      clear b0 b1 b2 b3 HA
      go_loopw [25] (fun i wr => ∃ k : Nat, k ≤ l.length ∧ i = .int .i64 k ∧ Hid (∃ lm : List Tm, lm.length = k ∧ Tm.eraseL lm = T.mapL f (Tm.eraseL (l.take k)) ∧ Filling wr (w.heap.size + 1 + 1) (fun _ => False) (w.heap.size + 1 + 1) l.length lm ∧ Tm.WholeL wr lm) ∧ Below (w.heap.size + 1 + 1) w1 wr)
        (fun i _ => l.length - (intOf i).toNat)
      case atStart => exact ⟨0, Nat.zero_le _, rfl, ⟨[], rfl, by simp [T.mapL, Tm.eraseL], HF.out, by rw [Tm.WholeL]; trivial⟩, Below.refl _ _⟩
      case round =>
        obtain ⟨k, hk, rfl, hlm, hb⟩ := hrel
        have hbs := hb.size
        have gr : Gr w wr := Below.trans g1 (hb.mono (by omega))
        have HB' : Hid _ := Lib.hid (HB.out.below hb (by omega))
        have HR' : Hid _ := Lib.hid (HR.out.below hb (by omega))
        by_cases hlt : k < l.length
        · obtain ⟨⟨c0, c1, c2, c3⟩, hx, _⟩ := (HSl.out.mono gr).elem k hlt
          have Hx := Lib.hid hx
          have hmem : l[k] ∈ l := List.getElem_mem hlt
          have Hz := Hsz.out _ hmem
          have Hfx := Lib.hid (Hfl.out _ hmem)
          have Htk : Hid (T.mapL f (Tm.eraseL (l.take (k + 1))) = T.mapL f (Tm.eraseL (l.take k)) ++ [T.map f l[k].erase]) := T.mapL_erase f l k hlt
          clear hx hmem
          generalize hxe : l[k] = x at *
          go_wp2_with fail
          refine (Hih.out x _ f _ (by omega) (Tm.In_below (by go_grown) Hx.out) Hfx.out (Hf.out.gr (by go_grown))).mono ?_
          rintro e w2 ⟨xm, hin, he, rfl, hb2, hon, hwh⟩
          obtain ⟨lm, hl0, he0, hF, hWL⟩ := hlm.out
          have hg12 : Gr wr w2 := below_step hb2 (by go_grown)
          have HWL := Lib.hid (Tm.WholeL.same (S := (· < wr.heap.size)) (fun b hb => hg12.block b hb) (hF.2.2.2.2.mono fun b hb => hb.2.1) hWL)
          have HLon := Lib.hid (hF.2.2.2.2.mono (S' := fun b => b < w2.heap.size ∧ b ≠ w.heap.size + 1 + 1) fun b hb => ⟨Nat.lt_of_lt_of_le hb.2.1 hg12.size, hb.2.2⟩)
          have Hwh := Lib.hid hwh
          have hF2 : Filling w2 (w.heap.size + 1 + 1) (fun _ => False) (w.heap.size + 1 + 1) l.length lm := Filling.gr (w := wr) hF (below_step hb2 (by go_grown))
          have HF2 := Lib.hid hF2
          have g2 : Below (w.heap.size + 1 + 1) w1 w2 := Below.trans hb ((show Gr wr w2 from below_step hb2 (by go_grown)).mono (by omega))
          obtain ⟨⟨q0, r0⟩, fr0⟩ := hF2.spot (j := k * 4) (by omega)
          obtain ⟨⟨q1, r1⟩, fr1⟩ := hF2.spot (j := k * 4 + 1) (by omega)
          obtain ⟨⟨q2, r2⟩, fr2⟩ := hF2.spot (j := k * 4 + 2) (by omega)
          obtain ⟨⟨q3, r3⟩, fr3⟩ := hF2.spot (j := k * 4 + 3) (by omega)
          have hs2 := hb2.size
          simp only [World.size_alloc] at hs2 hon
          have Hl0 := Lib.hid hl0
          have He0 := Lib.hid he0
          have Hin := Lib.hid hin
          have Hon := Lib.hid hon
          have He := Lib.hid he
          clear hF hF2 hl0 he0 hin hon he hb2 hlm hwh hWL hg12
          obtain ⟨k', n', s', p', c', l'⟩ := xm
          simp only [Tm.val, Tm.k, Tm.n, Tm.s, Tm.p, Tm.c, Tm.l]
          go_wp2_with fail
          go_roundw
          case rel =>
            refine ⟨k + 1, by omega, by go_num, ⟨lm ++ [.mk k' n' s' p' c' l'], by simp [Hl0.out], by rw [eraseL_append, He0.out, Htk.out]; simp [Tm.eraseL, He.out], ?_, ?_⟩, by go_grown⟩
            rotate_left
            · exact Tm.WholeL_append (Tm.WholeL.same (fun b hb => (Kp.set4 (C := fun x => x = w.heap.size + 1 + 1) rfl).block b hb.1 hb.2) HLon.out HWL.out)
                (by rw [Tm.WholeL, Tm.WholeL]; exact ⟨Tm.Whole.same (fun b hb => (Kp.set4 (C := fun x => x = w.heap.size + 1 + 1) rfl).block b hb.2 (by have := hb.1; omega)) (Tm.On.and Hon.out Hin.out.on) Hwh.out, trivial⟩)
            have := HF2.out.store (x := .mk k' n' s' p' c' l') (by rw [Hl0.out]; exact hlt) Hin.out (Hon.out.mono fun b hb => ?_)
            · rw [Hl0.out] at this
              simpa only [Tm.k, Tm.n, Tm.s, Tm.p, Tm.c, Tm.l] using this
            · exact ⟨.inr (by omega), by omega⟩
          case measure => simp [intOf]; omega
        · obtain rfl : k = l.length := by omega
          obtain ⟨lm, hl0, he0, hF, hWL⟩ := hlm.out
          have HWL := Lib.hid hWL
          have HLon := Lib.hid hF.2.2.2.2
          obtain ⟨⟨b0, b1, b2, b3⟩, ⟨e0, e1, e2, e3⟩, hbs1⟩ := HB'.out.parts
          obtain ⟨⟨y0, y1, y2, y3⟩, ⟨f0, f1, f2, f3⟩, hbs2⟩ := HR'.out.parts
          have HF := Lib.hid hF
          have Hl0 := Lib.hid hl0
          have He0 := Lib.hid he0
          clear hF hl0 he0 hlm hWL
          go_wp2_with fail
          refine bodyPost_ret (v := (Tm.mk 4 0 s (some ⟨w.heap.size + 1 + 1, 0, none⟩) l.length lm).val) (by simp [results, Try.results136, go_sem, Tm.val, Tm.k, Tm.n, Tm.s, Tm.p, Tm.c, Tm.l, Hl0.out, y0, y1, y2, y3]) rfl ?_
          have hsl := HF.out.sl Hl0.out (by omega)
          have hin : (Tm.mk 4 0 s (some ⟨w.heap.size + 1 + 1, 0, none⟩) l.length lm).In wr := compTm_in Hs.out hsl.1
          have hon : (Tm.mk 4 0 s (some ⟨w.heap.size + 1 + 1, 0, none⟩) l.length lm).On (fun b => w.heap.size + 1 + 1 ≤ b) := by
            rw [Tm.On]
            exact ⟨hsl.2.1.imp id fun ⟨b, o, h1, h2⟩ => ⟨b, o, h1, h2.elim (fun h => h.elim) id⟩, hsl.2.2.mono fun b hb => hb.elim (fun h => h.elim) id⟩
          have hwhole : (Tm.mk 4 0 s (some ⟨w.heap.size + 1 + 1, 0, none⟩) l.length lm).Whole wr := by
            obtain ⟨_, _, ⟨cur, hc1, hc2, _⟩, _⟩ := HF.out
            rw [Tm.Whole]
            exact ⟨.inr ⟨by rintro rfl; have := Hl0.out; simp at this; omega, _, cur, rfl, Hl0.out.symm, hc1, by rw [hc2, Hl0.out]⟩, HWL.out⟩
          have hfin : ∀ W, Kp (fun b => b = w.heap.size ∨ b = w.heap.size + 1) wr W → RetTmW (w.heap.size ≤ ·) (.mk 4 0 s.toList (T.mapL f (Tm.eraseL l))) w (.returned (Tm.mk 4 0 s (some ⟨w.heap.size + 1 + 1, 0, none⟩) l.length lm).val) W := fun W hK =>
            ⟨_, in_after' hin hon (fun b h1 h2 o => World.cell?_of_block (hK.block b h2 (by omega))), by rw [Tm.erase, He0.out, List.take_length], rfl, Below.trans gr (hK.below (B := w.heap.size) (fun b hb => by omega) gr.size), hon.mono fun b hb => by omega,
              Tm.Whole.same (fun b hb => hK.block b hb.2 (by have := hb.1; omega)) (Tm.On.and hon hin.on) hwhole⟩
          exact hfin _ ((Kp.set (C := fun b => b = w.heap.size ∨ b = w.heap.size + 1) (.inl rfl)).trans (Kp.set4 (C := fun b => b = w.heap.size ∨ b = w.heap.size + 1) (.inr rfl)))
    · rw [Tm.erase, T.map, if_neg hk1, if_neg hk4]
      exact mapW_leaf k n s p c l fv w h hk1 hk4

theorem mapWB_calls {t : Tm} {fv : Value} {f : Int → T} {w : World} (h : t.In w) (hf : t.erase.fmd = true) (hm : MapFnW fv f w) :
    Calls Try.prog 136 #[t.val, fv] w (RetTmW (w.heap.size ≤ ·) (T.map f t.erase) w) := mapWB_any _ t fv f w (Nat.le_refl _) h hf hm

set_option maxHeartbeats 4000000 in
set_option maxRecDepth 100000 in
theorem mapRenWB_any (NN : Nat) : ∀ (t : Tm) (d : Int) (V : List Int) (N M F : Nat) (w0 w : World), SizeOf.sizeOf t ≤ NN → t.In w0 → t.erase.fmd = true → Gr w0 w → (w0.heap.size ≤ M ∧ w0.heap.size ≤ F) → (0 ≤ d ∧ d ≤ 1099515822081) → VarsOkB V → RenSt d V N M F w →
    Calls Try.prog 136 #[t.val, .func (.func 146) #[] #[.pointer (some ⟨N, 0, none⟩), .pointer (some ⟨F, 0, none⟩)]] w (RetRenW d V t.erase N M F w) := by
  induction NN with
  | zero => intro t d V N M F w0 w h; cases t; simp at h
  | succ NN ih =>
    intro t d V N M F w0 w hN h hfm hgr hMF hd hV hst
    obtain ⟨k, n, s, p, c, l⟩ := t
    by_cases hk1 : k = 1
    · subst hk1
      have hn := fmd_var hfm
      refine (mapRenB_var d V n s p c l N M F w hn.1 hd hV hst).mono ?_
      rintro e w' ⟨rfl, h1, h2⟩
      have hv : T.vars (Tm.mk 1 n s p c l).erase V = withVar V n := by rw [Tm.erase, T.vars, if_pos rfl]; rfl
      have hlen := (hV.one hn.1).len
      have hidx : (withVar V n).idxOf n < (withVar V n).length := List.idxOf_lt_length_of_mem (mem_withVar V n)
      have hmem := mem_withVar V n
      refine ⟨varTm _, varTm_in (by change (withVar V n).length ≤ _ at hlen; exact ⟨by omega, by omega⟩) _, ?_, rfl, by rw [hv]; exact h1, h2, varTm_on _, by rw [varTm, Tm.Whole, Tm.WholeL]; exact ⟨.inl ⟨rfl, rfl, rfl⟩, trivial⟩⟩
      rw [hv, varTm_erase, Tm.erase, T.map, if_pos rfl, swapF, if_pos hmem]
    by_cases hk4 : k = 4
    · subst hk4
      obtain ⟨rfl, h100, hl1, hl50, hfl⟩ := fmd_elem rfl hfm
      have hsz := fun x (hx : x ∈ l) => Tm.sizeOf_mem hx 4 0 s p c
      have HSl := Lib.hid h.sl
      rw [Tm.In] at h
      obtain ⟨hk, hn, hs, hlc, hc, hp, hIn⟩ := h
      obtain ⟨b, o, rfl⟩ := HSl.out.ptr (by omega)
      have Hih := Lib.hid ih
      have Hsz := Lib.hid hsz
      have Hfl := Lib.hid hfl
      have Hs := Lib.hid hs
      have HIn := Lib.hid hIn
      have Hst := Lib.hid hst
      have HV := Lib.hid hV
      have Hd := Lib.hid hd
      obtain ⟨hlN, hlM, hlF⟩ := hst.lts
      have hNe := hst.apart
      obtain ⟨hm0, hf0⟩ := hMF
      have hgs := hgr.size
      clear hp hIn ih hsz hfl hk hn hfm hst hV hd
      obtain ⟨i0, hi, hz0, hz1, hz2⟩ := info_parts infoTermM
      have Hi := Lib.hid hi
      clear hi
      rw [Tm.erase]
      have hR : Hid (∀ e w', RetRenW d V (.mk 4 0 s.toList (Tm.eraseL l)) N M F w e w' → RetRenW d V (.mk 4 0 s.toList (Tm.eraseL l)) N M F w e w') := fun _ _ h => h
      generalize hQ : RetRenW d V (.mk 4 0 s.toList (Tm.eraseL l)) N M F w = Q at hR ⊢
      rw [← hQ] at hR
      have HQ := Lib.hid hQ
      clear hQ
      have hen : ∀ args w, (callFunc 146 args).run Try.prog w = .ok (.enter 146 args) w := fun args w => by kernel_rfl
      simp only [Tm.val, Tm.k, Tm.n, Tm.s, Tm.p, Tm.c, Tm.l]
      go_enter Try.func136, Try.ntmps136
      go_wp2_with
        (refine wpList_make_full _ rfl _ _ 23 rfl (w.heap.size) 25 i0 _ 4 Try.underlying23 Hi.out hz0 hz1 .i64 .i64 _ _ l.length rfl rfl rfl rfl (by rw [hz2]; omega) (by simp only [maxLen]; omega) (by simp; omega) ?_
         intro w1 hown hgrow
         have HF := fill_made (S := fun _ => False) hown
         have HA := (after_make hgrow).2
         obtain ⟨⟨b0, b1, b2, b3⟩, _, _⟩ := (after_make hgrow).1.parts
         clear hown hgrow)
      obtain ⟨HB, HRR, g1⟩ := HA.out
      replace HB := Lib.hid HB
      replace HRR := Lib.hid HRR
      have hg2 : w.heap.size + 1 + 1 < w1.heap.size := HF.out.lt
      clear b0 b1 b2 b3 HA
      have Hst1 : Hid (RenSt d V N M F w1) := Hst.out.gr g1
      go_loopg [25] l.length (fun m i wr => ∃ k : Nat, k ≤ l.length ∧ m = l.length - k ∧ i = .int .i64 k ∧
        Hid (∃ lm : List Tm, lm.length = k ∧ Tm.eraseL lm = T.mapL (swapF d (T.varsL (Tm.eraseL (l.take k)) V)) (Tm.eraseL (l.take k)) ∧ Filling wr (w.heap.size + 1 + 1) (fun _ => False) (w.heap.size + 1 + 1) l.length lm ∧ Tm.WholeL wr lm) ∧
        Hid (RenSt d (T.varsL (Tm.eraseL (l.take k)) V) N M F wr) ∧ Hid (VarsOkB (T.varsL (Tm.eraseL (l.take k)) V)) ∧ Hid (Kp (fun b => MF M F b ∨ b = w.heap.size + 1 + 1) w1 wr))
      case atStart => exact ⟨0, Nat.zero_le _, rfl, rfl, ⟨[], rfl, by simp [T.mapL, Tm.eraseL], HF.out, by rw [Tm.WholeL]; trivial⟩, by rw [List.take_zero, Tm.eraseL, T.varsL]; exact Hst1.out, by rw [List.take_zero, Tm.eraseL, T.varsL]; exact HV.out, Kp.refl _ _⟩
      case round =>
        obtain ⟨k, hk, rfl, rfl, hlm, HSt, HVk, HK⟩ := hrel
        have HB' := Lib.hid (HB.out.kp HK.out (by omega))
        have HR' := Lib.hid (HRR.out.kp HK.out (by omega))
        have hbs := HK.out.size
        have g0 : Gr w0 wr := Below.trans (Gr.trans hgr g1) (HK.out.below (B := w0.heap.size) (fun b hb => by rcases hb with (hb | hb) | hb <;> omega) (by have := g1.size; omega))
        by_cases hlt : k < l.length
        · obtain ⟨⟨c0, c1, c2, c3⟩, _, _⟩ := (HSl.out.mono g0).elem k hlt
          have hmem : l[k] ∈ l := List.getElem_mem hlt
          have Hx := Lib.hid (Tm.InL_mem HIn.out _ hmem)
          have Hz := Hsz.out _ hmem
          have Hfx := Lib.hid (Hfl.out _ hmem)
          have Hv1 := Lib.hid (varsL_step l k hlt V)
          have Hm1 := Lib.hid (mapLB_step l Hfl.out k hlt d V)
          clear hmem
          generalize l[k] = x at *
          go_upto_region 8 with fail
          have gE : Gr wr (wr.alloc (.cells #[.int .i64 x.k, .int .i64 x.n, .string x.s, .slice x.p x.l.length x.c] 25)) := by go_grown
          have hE := Blk4.new wr (.int .i64 x.k) (.int .i64 x.n) (.string x.s) (.slice x.p x.l.length x.c)
          have hszE : (wr.alloc (.cells #[.int .i64 x.k, .int .i64 x.n, .string x.s, .slice x.p x.l.length x.c] 25)).heap.size = wr.heap.size + 1 := by simp
          generalize wr.alloc (.cells #[.int .i64 x.k, .int .i64 x.n, .string x.s, .slice x.p x.l.length x.c] 25) = wE at *
          obtain ⟨⟨y0, y1, y2, y3⟩, _, _⟩ := hE.parts
          clear c0 c1 c2 c3 hE
          have hxv : x.val = .agg #[.int .i64 x.k, .int .i64 x.n, .string x.s, .slice x.p x.l.length x.c] := rfl
          have Hxv := Lib.hid hxv
          clear hxv
          go_wp2_with fail
          rw [← Hxv.out]
          refine (Hih.out x d _ N M F w0 wE (by omega) Hx.out Hfx.out (g0.trans gE) ⟨hm0, hf0⟩ Hd.out HVk.out (HSt.out.gr gE)).mono ?_
          rintro e w2 ⟨xm, hin, he, rfl, hst2, hk2, hon, hwh⟩
          obtain ⟨lm, hl0, he0, hF, hWL⟩ := hlm.out
          have hs2w := hk2.size
          have HWL := Lib.hid (Tm.WholeL.same (S := fun b => b < wr.heap.size ∧ w.heap.size + 1 + 1 ≤ b) (fun b hb => (hk2.block b (by omega) (fun h => by rcases h with h | h <;> omega)).trans (gE.block b hb.1)) (hF.2.2.2.2.mono fun b hb => ⟨hb.2.1, hb.1.resolve_left id⟩) hWL)
          have HLon := Lib.hid (hF.2.2.2.2.mono (S' := fun b => b < w2.heap.size ∧ b ≠ w.heap.size + 1 + 1) fun b hb => ⟨by have := hb.2.1; omega, hb.2.2⟩)
          have Hwh := Lib.hid hwh
          have hF2 : Filling w2 (w.heap.size + 1 + 1) (fun _ => False) (w.heap.size + 1 + 1) l.length lm := (hF.gr gE).kp hk2 (fun b hb h => by rcases h with h | h <;> omega)
          have HF2 := Lib.hid hF2
          obtain ⟨⟨q0, r0⟩, fr0⟩ := hF2.spot (j := k * 4) (by omega)
          obtain ⟨⟨q1, r1⟩, fr1⟩ := hF2.spot (j := k * 4 + 1) (by omega)
          obtain ⟨⟨q2, r2⟩, fr2⟩ := hF2.spot (j := k * 4 + 2) (by omega)
          obtain ⟨⟨q3, r3⟩, fr3⟩ := hF2.spot (j := k * 4 + 3) (by omega)
          have Hl0 := Lib.hid hl0
          have He0 := Lib.hid he0
          have Hin := Lib.hid hin
          have Hon := Lib.hid hon
          have He := Lib.hid he
          have Hst2 := Lib.hid hst2
          have Hk2 := Lib.hid ((HK.out.trans (Kp.of_gr gE)).trans (hk2.mono fun _ h => .inl h))
          clear hF hF2 hl0 he0 hin hon he hst2 hk2 hlm y0 y1 y2 y3 hwh hWL
          obtain ⟨k', n', s', p', c', l'⟩ := xm
          simp only [Tm.val, Tm.k, Tm.n, Tm.s, Tm.p, Tm.c, Tm.l]
          go_wp2_with fail
          go_roundg (l.length - (k + 1))
          case measure => omega
          case rel =>
            refine ⟨k + 1, by omega, rfl, by go_num, ⟨lm ++ [.mk k' n' s' p' c' l'], by simp [Hl0.out], by rw [eraseL_append, He0.out, Hm1.out]; simp [Tm.eraseL, He.out], ?_, ?_⟩, by rw [Hv1.out]; exact Hst2.out.kp (Kp.set4 (C := fun b => b = w.heap.size + 1 + 1) rfl) (by omega) (by omega) (by omega),
              by rw [Hv1.out]; exact HVk.out.vars _ Hfx.out, Hk2.out.trans (Kp.set4 (.inr rfl))⟩
            rotate_left
            · exact Tm.WholeL_append (Tm.WholeL.same (fun b hb => (Kp.set4 (C := fun x => x = w.heap.size + 1 + 1) rfl).block b hb.1 hb.2) HLon.out HWL.out)
                (by rw [Tm.WholeL, Tm.WholeL]; exact ⟨Tm.Whole.same (fun b hb => (Kp.set4 (C := fun x => x = w.heap.size + 1 + 1) rfl).block b hb.2 (by have := hb.1; omega)) (Tm.On.and Hon.out Hin.out.on) Hwh.out, trivial⟩)
            have := HF2.out.store (x := .mk k' n' s' p' c' l') (by rw [Hl0.out]; exact hlt) Hin.out (Hon.out.mono fun b hb => ⟨.inr (by omega), by omega⟩)
            rw [Hl0.out] at this
            simpa only [Tm.k, Tm.n, Tm.s, Tm.p, Tm.c, Tm.l] using this
        · obtain rfl : k = l.length := by omega
          obtain ⟨lm, hl0, he0, hF, hWL⟩ := hlm.out
          have HWL := Lib.hid hWL
          obtain ⟨⟨b0, b1, b2, b3⟩, ⟨e0, e1, e2, e3⟩, hbs1⟩ := HB'.out.parts
          obtain ⟨⟨y0, y1, y2, y3⟩, ⟨f0, f1, f2, f3⟩, hbs2⟩ := HR'.out.parts
          have HF := Lib.hid hF
          have Hl0 := Lib.hid hl0
          have He0 := Lib.hid he0
          clear hF hl0 he0 hlm hWL
          have hvE : Hid (T.vars (.mk 4 0 s.toList (Tm.eraseL l)) V = T.varsL (Tm.eraseL (l.take l.length)) V) := by show _ = _; rw [T.vars, if_neg (by decide), List.take_length]
          go_wp2_with fail
          refine bodyPost_ret (v := (Tm.mk 4 0 s (some ⟨w.heap.size + 1 + 1, 0, none⟩) l.length lm).val) (by simp [results, Try.results136, go_sem, Tm.val, Tm.k, Tm.n, Tm.s, Tm.p, Tm.c, Tm.l, Hl0.out, y0, y1, y2, y3]) rfl ?_
          rw [← HQ.out]
          have hK5 : ∀ v0 v1 v2 v3 v4 : Value, Kp (fun b => b = w.heap.size ∨ b = w.heap.size + 1) wr (((((wr.setCell ⟨w.heap.size, 3, none⟩ v0).setCell ⟨w.heap.size + 1, 0, none⟩ v1).setCell ⟨w.heap.size + 1, 1, none⟩ v2).setCell ⟨w.heap.size + 1, 2, none⟩ v3).setCell ⟨w.heap.size + 1, 3, none⟩ v4) :=
            fun v0 v1 v2 v3 v4 => (Kp.set (.inl rfl)).trans (Kp.set4 (.inr rfl))
          have hwhole : (Tm.mk 4 0 s (some ⟨w.heap.size + 1 + 1, 0, none⟩) l.length lm).Whole wr := by
            obtain ⟨_, _, ⟨cur, hc1, hc2, _⟩, _⟩ := HF.out
            rw [Tm.Whole]
            exact ⟨.inr ⟨by rintro rfl; have := Hl0.out; simp at this; omega, _, cur, rfl, Hl0.out.symm, hc1, by rw [hc2, Hl0.out]⟩, HWL.out⟩
          have hslw := HF.out.sl Hl0.out (by omega)
          have hinw : (Tm.mk 4 0 s (some ⟨w.heap.size + 1 + 1, 0, none⟩) l.length lm).In wr := compTm_in Hs.out hslw.1
          have honw : (Tm.mk 4 0 s (some ⟨w.heap.size + 1 + 1, 0, none⟩) l.length lm).On (fun b => False ∨ w.heap.size + 1 + 1 ≤ b) := by rw [Tm.On]; exact hslw.2
          refine ⟨_, ?_, ?_, rfl, ?_, ?_, ?_, Tm.Whole.same (fun b hb => (hK5 _ _ _ _ _).block b hb.2 (by have := hb.1.resolve_left id; omega)) (Tm.On.and honw hinw.on) hwhole⟩
          · have hsl := HF.out.sl Hl0.out (by omega)
            have hin : (Tm.mk 4 0 s (some ⟨w.heap.size + 1 + 1, 0, none⟩) l.length lm).In wr := compTm_in Hs.out hsl.1
            have hon : (Tm.mk 4 0 s (some ⟨w.heap.size + 1 + 1, 0, none⟩) l.length lm).On (fun b => False ∨ w.heap.size + 1 + 1 ≤ b) := by rw [Tm.On]; exact hsl.2
            exact in_after' hin hon fun b h1 h2 o => by
              have : b ≠ w.heap.size ∧ b ≠ w.heap.size + 1 := by
                rcases h1 with h1 | h1
                · exact h1.elim
                · omega
              rw [cell_set_ne this.2, cell_set_ne this.2, cell_set_ne this.2, cell_set_ne this.2, cell_set_ne this.1]
          · rw [Tm.erase, He0.out, hvE.out, T.map, if_neg (by decide), if_pos rfl, List.take_length]
          · rw [hvE.out]
            exact HSt.out.kp (hK5 _ _ _ _ _) (by omega) (by omega) (by omega)
          · exact (((Kp.of_gr g1).trans (HK.out.mono (C' := fun b => MF M F b ∨ w.heap.size ≤ b) fun b h => h.imp id fun h => by omega)).trans ((hK5 _ _ _ _ _).mono fun b h => .inr (by omega))).weaken fun b hb hc => hc.resolve_right (by omega)
          · have hsl := HF.out.sl Hl0.out (by omega)
            rw [Tm.On]
            exact ⟨hsl.2.1.imp id fun ⟨b, o, h1, h2⟩ => ⟨b, o, h1, h2.elim (fun h => h.elim) fun h => by omega⟩, hsl.2.2.mono fun b hb => hb.elim (fun h => h.elim) fun h => by omega⟩
    · rw [Tm.erase]
      refine (mapW_leaf k n s p c l _ w (Tm.In_below hgr h) hk1 hk4).mono fun e w' ⟨bm, h1, h2, h3, h4, h5, h6w⟩ => ?_
      have hl : Tm.eraseL l = [] := by
        rcases fmd_args (by rw [Tm.erase] at hfm; exact hfm) with ⟨h6, _⟩ | ⟨_, h6⟩
        · exact absurd h6 hk4
        · exact h6
      have hv : T.vars (.mk k n s.toList (Tm.eraseL l)) V = V := by rw [T.vars, if_neg hk1, hl, T.varsL]
      exact ⟨bm, h1, by rw [h2, T.map, if_neg hk1, if_neg hk4], h3, by rw [hv]; exact hst.gr h4, Kp.of_gr h4, h5, h6w⟩

set_option maxHeartbeats 4000000 in
set_option maxRecDepth 100000 in
theorem renamedWB_calls (d : Int) (p : Option Addr) (c : Nat) (l : List Tm) (w : World) (h : Tm.Sl w p c l) (hf : ∀ x ∈ l, x.erase.fmd = true) (hd : 0 ≤ d ∧ d ≤ 1099515822081) :
    Calls Try.prog 93 #[.int .i64 d, .slice p l.length c] w (RetRensW d (Tm.eraseL l) w) := by
  have hl64 : l.length * 56 ≤ 140737488351232 := h.2.1.1
  have hlc : l.length ≤ c := h.1
  have hc64 : c ≤ 9223372036854775807 := h.2.1.2
  have HSl := Lib.hid h
  have Hf := Lib.hid hf
  have Hd := Lib.hid hd
  have HIn := Lib.hid h.2.2.2
  clear h hf
  generalize hQ : RetRensW d (Tm.eraseL l) w = Q
  have HQ := Lib.hid hQ
  clear hQ
  go_enter Try.func93, Try.ntmps93
  try simp only [List.append_eq, List.cons_append, List.nil_append]
  have hmm := @run_makeMap Try.prog
  go_upto_region 2 with fail
  have hst : RenSt d [] (w.heap.size + 2) (w.heap.size + 1) w.heap.size (((w.alloc (.cells #[.int .i64 d] 2)).alloc (.map #[] 0)).alloc (.cells #[.map (some (w.heap.size + 1))] 176)) := start_ren w d
  have g1 : Gr w (((w.alloc (.cells #[.int .i64 d] 2)).alloc (.map #[] 0)).alloc (.cells #[.map (some (w.heap.size + 1))] 176)) := by go_grown
  have hsz : (((w.alloc (.cells #[.int .i64 d] 2)).alloc (.map #[] 0)).alloc (.cells #[.map (some (w.heap.size + 1))] 176)).heap.size = w.heap.size + 3 := by simp
  generalize (((w.alloc (.cells #[.int .i64 d] 2)).alloc (.map #[] 0)).alloc (.cells #[.map (some (w.heap.size + 1))] 176)) = wA at *
  have Hst := Lib.hid hst
  clear hst hmm
  go_wp2_with fail
  have hfun : Hid (Gr w wA) := g1
  go_loopg [7, 13] l.length (fun m v i wr => ∃ k : Nat, k ≤ l.length ∧ m = l.length - k ∧ i = .int .i64 k ∧
    Hid (∃ lm : List Tm, lm.length = k ∧ Tm.eraseL lm = T.mapL (swapF d (T.varsL (Tm.eraseL (l.take k)) [])) (Tm.eraseL (l.take k)) ∧ Built wr (w.heap.size + 3) (fun _ => False) v lm ∧ Tm.WholeL wr lm) ∧
    Hid (RenSt d (T.varsL (Tm.eraseL (l.take k)) []) (w.heap.size + 2) (w.heap.size + 1) w.heap.size wr) ∧ Hid (VarsOkB (T.varsL (Tm.eraseL (l.take k)) [])) ∧ Gr w wr ∧ w.heap.size + 3 ≤ wr.heap.size)
  case atStart => exact ⟨0, Nat.zero_le _, rfl, rfl, ⟨[], rfl, by simp [T.mapL, Tm.eraseL], Built.nil _ _ _, by rw [Tm.WholeL]; trivial⟩, by rw [List.take_zero, Tm.eraseL, T.varsL]; exact Hst.out, by rw [List.take_zero, Tm.eraseL, T.varsL]; exact VarsOkB.nil, g1, by omega⟩
  case round =>
    obtain ⟨k, hk, rfl, rfl, hlm, HSt, HVk, gr, hws⟩ := hrel
    by_cases hlt : k < l.length
    · obtain ⟨b, o, rfl⟩ := HSl.out.ptr (by omega)
      obtain ⟨⟨c0, c1, c2, c3⟩, _, _⟩ := (HSl.out.mono gr).elem k hlt
      have hmem : l[k] ∈ l := List.getElem_mem hlt
      have Hx := Lib.hid (Tm.InL_mem HIn.out _ hmem)
      have Hfx := Lib.hid (Hf.out _ hmem)
      have Hv1 := Lib.hid (varsL_step l k hlt [])
      have Hm1 := Lib.hid (mapLB_step l Hf.out k hlt d [])
      clear hmem
      generalize l[k] = x at *
      go_upto_region 6 with fail
      have gE : Gr wr (wr.alloc (.cells #[.int .i64 x.k, .int .i64 x.n, .string x.s, .slice x.p x.l.length x.c] 25)) := by go_grown
      have hE := Blk4.new wr (.int .i64 x.k) (.int .i64 x.n) (.string x.s) (.slice x.p x.l.length x.c)
      have hszE : (wr.alloc (.cells #[.int .i64 x.k, .int .i64 x.n, .string x.s, .slice x.p x.l.length x.c] 25)).heap.size = wr.heap.size + 1 := by simp
      generalize wr.alloc (.cells #[.int .i64 x.k, .int .i64 x.n, .string x.s, .slice x.p x.l.length x.c] 25) = wE at *
      obtain ⟨⟨y0, y1, y2, y3⟩, _, _⟩ := hE.parts
      clear c0 c1 c2 c3 hE
      have Hxv := Lib.hid (show x.val = .agg #[.int .i64 x.k, .int .i64 x.n, .string x.s, .slice x.p x.l.length x.c] from rfl)
      go_wp2_with fail
      rw [← Hxv.out]
      refine (mapRenWB_any _ x d _ (w.heap.size + 2) (w.heap.size + 1) w.heap.size w wE (Nat.le_refl _) Hx.out Hfx.out (gr.trans gE) ⟨by omega, by omega⟩ Hd.out HVk.out (HSt.out.gr gE)).mono ?_
      rintro e w2 ⟨xm, hin, he, rfl, hst2, hk2, hon, hwh⟩
      obtain ⟨lm, hl0, he0, hF, hWL⟩ := hlm.out
      have hs2w := hk2.size
      have HWL := Lib.hid (Tm.WholeL.same (S := fun b => b < wr.heap.size ∧ w.heap.size + 3 ≤ b) (fun b hb => (hk2.block b (by omega) (fun h => by rcases h with h | h <;> omega)).trans (gE.block b hb.1)) (hF.2.2.mono fun b hb => ⟨hb.2.1, hb.1.resolve_left id⟩) hWL)
      have HLon := Lib.hid hF.2.2
      have Hwh := Lib.hid hwh
      have hF2 : Built w2 (w.heap.size + 3) (fun _ => False) _ lm := (hF.gr gE).kp hk2 (fun b hb h => by rcases h with h | h <;> omega)
      have HF2 := Lib.hid hF2
      have Hvl := Lib.hid hF2.1.lt
      have hs2 := hk2.size
      have Hl0 := Lib.hid hl0
      have He0 := Lib.hid he0
      have Hin := Lib.hid hin
      have Hon := Lib.hid hon
      have He := Lib.hid he
      have Hst2 := Lib.hid hst2
      have g2 : Gr w w2 := Below.trans (gr.trans gE) (hk2.below (B := w.heap.size) (fun b hb => by rcases hb with hb | hb <;> omega) (by omega))
      have Hvf := Lib.hid hF.1.lt
      clear hF hF2 hl0 he0 hin hon he hst2 hk2 hlm y0 y1 y2 y3 hwh hWL
      obtain ⟨k', n', s', p2, c2, l2⟩ := xm
      simp only [Tm.val, Tm.k, Tm.n, Tm.s, Tm.p, Tm.c, Tm.l]
      go_wp2_with
        (at_builtin
         refine wpList_append_termG rfl _ _ rfl rfl (w.heap.size + 3) (fun _ => False) _ lm (.mk k' n' s' p2 c2 l2) w2.heap.size 1 rfl rfl (HF2.out.gr (by go_grown)) (by simp; omega) (Tm.In_below (by go_grown) Hin.out) (Hon.out.mono fun b hb => ⟨.inr (by omega), fun e => by have := Hvf.out b e; omega⟩) (by have := Hl0.out; omega) (by show _ = some (Value.int .i64 k'); go_cell) (by show _ = some (Value.int .i64 n'); go_cell) (by show _ = some (Value.string s'); go_cell) (by show _ = some (Value.slice p2 l2.length c2); go_cell) ?_
         intro v' w4 hbt hbel hgb
         have hsame : ∀ b, b < w2.heap.size → (w2.alloc (.cells #[.int .i64 k', .int .i64 n', .string s', .slice p2 l2.length c2] 25)).heap[b]? = w2.heap[b]? := fun b hb => heap_alloc_old w2 _ hb
         have hw1 : Tm.WholeL w4 lm := Tm.WholeL.same (fun b hb => (hgb.block b (by simp only [World.size_alloc]; have := hb.2.1; omega) (Ne.symm hb.2.2)).trans (hsame b (by have := hb.2.1; omega))) HLon.out HWL.out
         have hw2 : (Tm.mk k' n' s' p2 c2 l2).Whole w4 := Tm.Whole.same (fun b hb => (hgb.block b (by simp only [World.size_alloc]; have := hb.2; omega) (fun e => by have := Hvf.out b e.symm; have := hb.1; omega)).trans (hsame b hb.2)) (Tm.On.and Hon.out Hin.out.on) Hwh.out
         have HW4 := Lib.hid (Tm.WholeL_append hw1 (by rw [Tm.WholeL, Tm.WholeL]; exact ⟨hw2, trivial⟩ : Tm.WholeL w4 [Tm.mk k' n' s' p2 c2 l2]))
         clear hgb hsame hw1 hw2)
      go_roundg (l.length - (k + 1))
      case measure => omega
      case rel =>
        have hg4 : Below (w.heap.size + 3) w2 w4 := Below.trans (show Below (w.heap.size + 3) w2 _ by go_grown) hbel
        exact ⟨k + 1, by omega, rfl, by go_num, ⟨_, by rw [List.length_append, Hl0.out]; rfl, by rw [eraseL_append, He0.out, Hm1.out, ← He.out]; simp [Tm.eraseL], hbt, HW4.out⟩, by rw [Hv1.out]; exact Hst2.out.below hg4 (by omega) (by omega) (by omega), by rw [Hv1.out]; exact HVk.out.vars _ Hfx.out, Below.trans g2 (hg4.mono (by omega)), by have := hg4.size; omega⟩
    · obtain rfl : k = l.length := by omega
      obtain ⟨lm, hl0, he0, hF, hWL⟩ := hlm.out
      have HWL := Lib.hid hWL
      obtain ⟨pv, cv, rfl, hcv1, hcv2⟩ := hF.form
      have HF := Lib.hid hF
      have Hl0 := Lib.hid hl0
      have He0 := Lib.hid he0
      have cF := cell_of_row wr w.heap.size 0 _ _ _ HSt.out.next
      simp only [List.getElem?_toArray, List.getElem?_cons_zero, List.take_length] at cF
      clear hF hl0 he0 hlm hWL
      go_wp2_with fail
      go_quiet (fail)
      go_wp2_with fail
      rw [← HQ.out]
      have hsl := HF.out.sl (by rw [Hl0.out]; exact hl64)
      exact ⟨pv, cv, lm, rfl, hsl.2.1.mono ((Gr.rfl' wr).drewN _), by rw [He0.out, List.take_length], gr.drewN _, hsl.2.2.mono fun b hb => hb.elim (fun h => h.elim) fun h => by omega, Tm.WholeL.same (S := (· < wr.heap.size)) (fun b hb => ((Gr.rfl' wr).drewN _).block b hb) (Tm.In.onL hsl.2.1.2.2.2) HWL.out⟩

mutual
theorem fmd_of : ∀ {t : T}, t.formed = true → t.fmd = true
  | .mk k n s l, h => by
    rw [T.formed] at h
    rw [T.fmd]
    by_cases h1 : k = 1
    · rw [if_pos h1] at h ⊢
      simp only [Bool.and_eq_true, decide_eq_true_eq] at h ⊢
      exact ⟨⟨⟨h.1.1.1, by omega⟩, h.1.2⟩, h.2⟩
    · rw [if_neg h1] at h ⊢
      by_cases h2 : k = 2
      · rw [if_pos h2] at h ⊢; exact h
      · rw [if_neg h2] at h ⊢
        by_cases h3 : k = 3
        · rw [if_pos h3] at h ⊢; exact h
        · rw [if_neg h3] at h ⊢
          by_cases h4 : k = 4
          · rw [if_pos h4] at h ⊢
            rw [Bool.and_eq_true] at h ⊢
            exact ⟨h.1, fmdL_of h.2⟩
          · rw [if_neg h4] at h; cases h
theorem fmdL_of : ∀ {l : List T}, T.formedL l = true → T.fmdL l = true
  | [], _ => by rw [T.fmdL]
  | x :: xs, h => by
    rw [T.formedL, Bool.and_eq_true] at h
    rw [T.fmdL, fmd_of h.1, fmdL_of h.2]; rfl
end

end Go.Proofs.Ytcblmkhhhibddaa
