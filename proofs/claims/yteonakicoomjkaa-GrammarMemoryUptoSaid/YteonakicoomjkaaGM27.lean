/-
  grammar.Translate
  A map that numbers variables in their order; grammar.Phrase's function of it.
  grammar.Phrase$1
  grammar.Phrase
-/
import Derived.Test.YteonakicoomjkaaGM26
import Derived.Test.YteonakicoomjkaaGM09
namespace Go.Proofs.Yteonakicoomjkaa
open Go.RowKit Go.Lib

/-- P20: a rule of a grammar as a clause, where it is one. -/
def transO (t : T) : Option T := if t.formed then (if t.isOf sRule 2 then transAns t (t.l.getD 0 zeroT) (t.l.getD 1 zeroT) else none) else none

set_option maxHeartbeats 4000000 in
set_option maxRecDepth 100000 in
theorem translate_calls (t : Tm) (w : World) (hin : t.In w) (hsz : t.erase.size ≤ 1048576) : Calls Try.prog 24 #[t.val] w (RetGd (transO t.erase) w) := by
  have hmf : ∀ (fn : Fn) (first cap : Array Value) (w : World), (Instr.makeFunc fn first cap).run Try.prog w = .ok (.func fn first cap) w := fun _ _ _ _ => rfl
  have Htv := Lib.hid (show t.val = .agg #[.int .i64 t.k, .int .i64 t.n, .string t.s, .slice t.p t.l.length t.c] from rfl)
  have H := Lib.hid hin
  have Hsz := Lib.hid hsz
  have H1 := Lib.hid (show t.erase.isOf (ByteArray.mk #[45, 45, 62]).toList 2 = t.erase.isOf sRule 2 by rw [blRule])
  have HO := Lib.hid (show transO t.erase = if t.erase.formed then (if t.erase.isOf sRule 2 then transAns t.erase (t.erase.l.getD 0 zeroT) (t.erase.l.getD 1 zeroT) else none) else none from rfl)
  have hR : Hid (∀ (c : Int), transO t.erase = none → ∀ w', Gr w w' → RetGd (transO t.erase) w (.returned (.tuple #[zeroTm.val, .int .i64 c])) w') := fun c hn w' hg => by
    rw [hn]; exact ⟨zeroTm, c, rfl, zeroTm_in _, zeroTm_erase, zero_whole _, by rw [zeroTm, Tm.On, Tm.OnL]; exact ⟨.inl rfl, trivial⟩, hg, fun h => by cases h⟩
  generalize hQ : RetGd (transO t.erase) w = Q at hR
  have HQ := Lib.hid hQ
  clear hQ hin hsz
  simp only [Tm.val]
  go_enter Try.func24, Try.ntmps24
  try simp only [List.append_eq, List.cons_append, List.nil_append]
  go_upto_region 1 with fail
  obtain ⟨HB, HR, gA⟩ := two_blocks w (.int .i64 t.k) (.int .i64 t.n) (.string t.s) (.slice t.p t.l.length t.c) (.int .i64 0) (.int .i64 0) (.string ⟨#[]⟩) (.slice none 0 0)
  generalize (w.alloc (.cells #[.int .i64 t.k, .int .i64 t.n, .string t.s, .slice t.p t.l.length t.c] 24)).alloc (.cells #[.int .i64 0, .int .i64 0, .string ⟨#[]⟩, .slice none 0 0] 24) = wA at *
  obtain ⟨⟨t0, t1, t2, t3⟩, _, _⟩ := HB.out.parts
  cases hf : t.erase.formed with
  | false =>
    have hn := Lib.hid (HO.out.trans (if_neg (by rw [hf]; decide)))
    go_wp2_with (first
      | (go_at_call 62
         refine (all_calls (l := [t]) (one_new (t := t) (Tm.In_below gA H.out) (Gr.rfl' _))).mono ?_
         rintro e w1 ⟨rfl, hb⟩
         rw [show T.formedL (Tm.eraseL [t]) = false by rw [formedL_one, hf]]
         have g1 : Gr wA w1 := below_step hb (by go_grown)
         obtain ⟨⟨r0, r1, r2, r3⟩, ⟨f0, f1, f2, f3⟩, hlt⟩ := (HR.out.gr g1).parts
         clear hb t0 t1 t2 t3)
      | fail)
    refine bodyPost_ret (v := .tuple #[zeroTm.val, .int .i64 2]) (by simp (maxDischargeDepth := 9) [results, Try.results24, go_sem, zeroTm, tm_val, r0, r1, r2, r3]) rfl ?_
    exact hR.out 2 hn.out _ (Below.trans (Gr.trans gA g1) ((Kp.set4 (C := fun b => b = w.heap.size + 1) rfl).below (fun b hb => by omega) (Gr.trans gA g1).size))
  | true =>
    cases hi : t.erase.isOf sRule 2 with
    | false =>
      have hn := Lib.hid (HO.out.trans ((if_pos hf).trans (if_neg (by rw [hi]; decide))))
      go_wp2_with (first
        | (go_at_call 62
           refine (all_calls (l := [t]) (one_new (t := t) (Tm.In_below gA H.out) (Gr.rfl' _))).mono ?_
           rintro e w1 ⟨rfl, hb⟩
           rw [show T.formedL (Tm.eraseL [t]) = true by rw [formedL_one, hf]]
           have g1 : Gr wA w1 := below_step hb (by go_grown)
           clear hb t0 t1 t2 t3
           obtain ⟨⟨t0, t1, t2, t3⟩, _, _⟩ := (HB.out.gr g1).parts)
        | (go_at_call 76; rewrite [← Htv.out]; refine (is_calls _ _ _ _).mono ?_; rintro e w2 ⟨rfl, hb⟩; rewrite [H1.out, hi]; have g2 : Gr wA w2 := Gr.trans g1 hb; obtain ⟨⟨r0, r1, r2, r3⟩, ⟨f0, f1, f2, f3⟩, hlt⟩ := (HR.out.gr g2).parts; clear hb t0 t1 t2 t3)
        | fail)
      refine bodyPost_ret (v := .tuple #[zeroTm.val, .int .i64 1]) (by simp (maxDischargeDepth := 9) [results, Try.results24, go_sem, zeroTm, tm_val, r0, r1, r2, r3]) rfl ?_
      exact hR.out 1 hn.out _ (Below.trans (Gr.trans gA g2) ((Kp.set4 (C := fun b => b = w.heap.size + 1) rfl).below (fun b hb => by omega) (Gr.trans gA g2).size))
    | true =>
      obtain ⟨u, v, hl⟩ := isOf_twoTm hi
      have Hl := Lib.hid hl
      have hn : Hid (transO t.erase = transAns t.erase u.erase v.erase) := by
        show _ = _
        rw [HO.out, hf, hi, if_pos rfl, if_pos rfl, erase_mk t, hl]
        simp [Tm.eraseL, T.l]
      have Hf := Lib.hid hf
      clear hl
      go_upto_region 5 with (first
        | (go_at_call 62
           refine (all_calls (l := [t]) (one_new (t := t) (Tm.In_below gA H.out) (Gr.rfl' _))).mono ?_
           rintro e w1 ⟨rfl, hb⟩
           rw [show T.formedL (Tm.eraseL [t]) = true by rw [formedL_one, hf]]
           have g1 : Gr wA w1 := below_step hb (by go_grown)
           clear hb t0 t1 t2 t3
           obtain ⟨⟨t0, t1, t2, t3⟩, _, _⟩ := (HB.out.gr g1).parts)
        | (go_at_call 76; rewrite [← Htv.out]; refine (is_calls _ _ _ _).mono ?_; rintro e w2 ⟨rfl, hb⟩; rewrite [H1.out, hi]; have g2 : Gr wA w2 := Gr.trans g1 hb; clear hb t0 t1 t2 t3)
        | fail)
      have hgd := guard_calls 78 #[.pointer (some ⟨w.heap.size, 0, none⟩)] (transAns t.erase u.erase v.erase) w2 (fun W => by kernel_rfl)
        (fun W hW => trans1_calls t u v w.heap.size W (Tm.In_below (Gr.trans (Gr.trans gA g2) hW) H.out) Hf.out Hl.out ((HB.out.gr g2).gr hW) Hsz.out)
      have HGd := Lib.hid hgd
      clear hgd
      go_wp2_with (first
        | (go_at_call 77
           refine HGd.out.mono ?_
           rintro e w3 ⟨⟨kb, nb, sb, pb, cb, lb⟩, c, rfl, hin, he, hwh, hon, hg, hc0⟩
           obtain ⟨⟨r0, r1, r2, r3⟩, ⟨f0, f1, f2, f3⟩, hlt⟩ := (HR.out.gr (Gr.trans g2 hg)).parts
           have HB2 := Lib.hid (And.intro hin (And.intro he (And.intro hwh (And.intro hon hc0))))
           have g3 : Gr w w3 := Gr.trans (Gr.trans gA g2) hg
           rewrite [tm_val]
           clear hin he hwh hon hg hc0)
        | fail)
      refine bodyPost_ret (v := .tuple #[(Tm.mk kb nb sb pb cb lb).val, .int .i64 c]) (by simp (maxDischargeDepth := 9) [results, Try.results24, go_sem, tm_val, r0, r1, r2, r3]) rfl ?_
      obtain ⟨hin, he, hwh, hon, hc0⟩ := HB2.out
      rw [← HQ.out, hn.out]
      have k4 : ∀ q0 q1 q2 q3 : Value, Kp (· = w.heap.size + 1) w3 ((((w3.setCell ⟨w.heap.size + 1, 0, none⟩ q0).setCell ⟨w.heap.size + 1, 1, none⟩ q1).setCell ⟨w.heap.size + 1, 2, none⟩ q2).setCell ⟨w.heap.size + 1, 3, none⟩ q3) := fun _ _ _ _ => Kp.set4 (C := fun b => b = w.heap.size + 1) rfl
      have hRl : w.heap.size + 1 < w2.heap.size := Nat.lt_of_lt_of_le HR.out.parts.2.2 g2.size
      have hne : ∀ b, w2.heap.size ≤ b → ¬ (b = w.heap.size + 1) := fun b hb => by omega
      exact ⟨_, c, rfl, in_kp hin hon hne (k4 _ _ _ _), he, whole_kp hwh hin hon hne (k4 _ _ _ _), hon.mono fun b hb => (by have : w2.heap.size ≤ b := hb; omega), Below.trans g3 ((k4 _ _ _ _).below (fun b hb => by omega) g3.size), hc0⟩
end Go.Proofs.Yteonakicoomjkaa

namespace Go.Proofs.Yteonakicoomjkaa
open Go.RowKit Go.Lib Go.Maps

/-- Block b is a map: the i-th of V has the value d + i, in this order. -/
def NumG (w : World) (b : Nat) (d : Int) (V : List Int) : Prop :=
  ∃ (E : Array MapEntry) (c : Nat), w.heap[b]? = some (.map E c) ∧ E.size = V.length ∧ (∀ (i : Nat) (n : Int), V[i]? = some n → ∃ e : MapEntry, E[i]? = some e ∧ e.key = kNum n ∧ e.val = .int .i64 (d + (i : Int))) ∧ V.Nodup ∧ ∀ n ∈ V, In64 n

def numF (d : Int) (V : List Int) (n : Int) : Option Value := if n ∈ V then some (.int .i64 (d + (V.idxOf n : Int))) else none

theorem nodup_kNum : ∀ {V : List Int}, V.Nodup → (V.map kNum).Nodup
  | [], _ => List.nodup_nil
  | n :: V, h => by
    rw [List.nodup_cons] at h
    rw [List.map_cons, List.nodup_cons]
    refine ⟨fun hm => ?_, nodup_kNum h.2⟩
    obtain ⟨m, hm, he⟩ := List.mem_map.1 hm
    exact h.1 (kNum_inj he ▸ hm)

section
variable {w w' : World} {b : Nat} {d : Int} {V : List Int}
theorem NumG.lt (h : NumG w b d V) : b < w.heap.size := by
  obtain ⟨E, c, h1, _⟩ := h
  exact (Array.getElem?_eq_some_iff.1 h1).1
theorem NumG.same (h : NumG w b d V) (hb : w'.heap[b]? = w.heap[b]?) : NumG w' b d V := by
  obtain ⟨E, c, h1, h2⟩ := h
  exact ⟨E, c, hb.trans h1, h2⟩
theorem NumG.gr (h : NumG w b d V) (hg : Gr w w') : NumG w' b d V := h.same (hg.block b h.lt)
theorem NumG.made (w : World) (d : Int) : NumG (w.alloc (.map #[] 0)) w.heap.size d [] :=
  ⟨#[], 0, heap_alloc_new _ _, rfl, fun i n h => (by cases h), List.nodup_nil, fun n h => (by cases h)⟩
theorem NumG.keys (h : NumG w b d V) : ∃ (E : Array MapEntry) (c : Nat), w.heap[b]? = some (.map E c) ∧ E.toList.map (·.key) = V.map kNum ∧ E.size = V.length ∧ (∀ e ∈ E.toList, ∃ l, keyOf Try.prog 2 e.key = some l) ∧
    ∀ x v, numF d V x = some v ↔ ∃ e ∈ E.toList, e.key = kNum x ∧ e.val = v := by
  obtain ⟨E, c, h1, h2, h3, h4, h5⟩ := h
  have hkeys : E.toList.map (·.key) = V.map kNum := by
    apply List.ext_getElem?
    intro i
    rw [List.getElem?_map, List.getElem?_map]
    cases hi : V[i]? with
    | none =>
      have : V.length ≤ i := List.getElem?_eq_none_iff.1 hi
      rw [List.getElem?_eq_none (by simp; omega)]
      rfl
    | some n =>
      obtain ⟨e, he, hk, _⟩ := h3 i n hi
      rw [Array.getElem?_toList, he]
      simp [hk]
  have hmem : ∀ e ∈ E.toList, ∃ (i : Nat) (n : Int), V[i]? = some n ∧ E[i]? = some e ∧ e.key = kNum n ∧ e.val = .int .i64 (d + (i : Int)) := by
    intro e he
    obtain ⟨i, hi, hie⟩ := List.getElem_of_mem he
    have hiV : i < V.length := by rw [Array.length_toList] at hi; omega
    obtain ⟨e', he', hk, hv⟩ := h3 i V[i] (List.getElem?_eq_getElem hiV)
    have : e' = e := by
      rw [← Array.getElem?_toList, List.getElem?_eq_getElem hi, hie] at he'
      exact (Option.some.inj he').symm
    subst this
    exact ⟨i, V[i], List.getElem?_eq_getElem hiV, he', hk, hv⟩
  refine ⟨E, c, h1, hkeys, h2, fun e he => ?_, fun x v => ?_⟩
  · obtain ⟨i, n, hn, _, hk, _⟩ := hmem e he
    exact ⟨_, by rw [hk]; exact keyOf_int_mk Try.underlying2 (wf_64 (h5 n (List.mem_of_getElem? hn)))⟩
  · unfold numF
    constructor
    · intro hx
      split at hx
      · rename_i hm
        cases hx
        have hlt := List.idxOf_lt_length_of_mem hm
        obtain ⟨e, he, hk, hv⟩ := h3 (V.idxOf x) x (by rw [List.getElem?_eq_getElem hlt, List.getElem_idxOf])
        exact ⟨e, by rw [← Array.getElem?_toList] at he; exact List.mem_of_getElem? he, hk, hv⟩
      · cases hx
    · rintro ⟨e, he, hk, rfl⟩
      obtain ⟨i, n, hn, _, hk', hv⟩ := hmem e he
      have hnx : n = x := kNum_inj (hk'.symm.trans hk)
      subst hnx
      obtain ⟨hlt, hget⟩ := List.getElem?_eq_some_iff.1 hn
      have hm : n ∈ V := hget ▸ List.getElem_mem hlt
      rw [if_pos hm, hv]
      have hidx : V.idxOf n = i := by rw [← hget]; exact List.Nodup.idxOf_getElem h4 i hlt
      rw [hidx]
theorem NumG.gmap (h : NumG w b d V) : GMap 2 kNum w b (numF d V) := by
  have hnd : V.Nodup := by obtain ⟨_, _, _, _, _, h4, _⟩ := h; exact h4
  obtain ⟨E, c, h1, h2, _, h4, h5⟩ := h.keys
  exact ⟨E, c, h1, h4, by rw [h2]; exact nodup_kNum hnd, h5⟩

set_option maxRecDepth 100000 in
theorem NumG.push (h : NumG w b d V) {n : Int} (hn : In64 n) (hno : n ∉ V) (hx : keyOf Try.prog 2 (kNum n) = some (.int .i64 n)) :
    ∃ w', (Instr.mapUpdate 124 (.map (some b)) (kNum n) (.int .i64 (d + (V.length : Int)))).run Try.prog w = .ok () w' ∧ NumG w' b d (V ++ [n]) ∧ w.grownBy w' (some b) := by
  obtain ⟨E, c, hb, hkeys, _, hk, _⟩ := h.keys
  obtain ⟨E', c', hb', h2, h3, h4, h5⟩ := h
  rw [hb] at hb'
  cases hb'
  have KK := int_keyed Try.underlying2
  rcases KK.find w hx E.toList hk with ⟨h1, h6⟩ | ⟨j, e0, h1, h6, h7⟩
  · refine ⟨ChangeMaps.setBlock w b (.map (E.push ⟨kNum n, .int .i64 (d + (V.length : Int)), c⟩) (c + 1)), ?_, ⟨E.push ⟨kNum n, .int .i64 (d + (V.length : Int)), c⟩, c + 1, ChangeMaps.heap_setBlock_same hb _, by simp [h2], ?_, ?_, ?_⟩, setBlock_grown hb _⟩
    · simp [Instr.mapUpdate, run_underlying Try.underlying124, MapKept.run_getObj_map hb, KK.check w false hx, h1, MapKept.run_setObj_map _ hb, Result.andThen, ChangeMaps.setBlock]
    · intro i m hm
      by_cases hi : i < V.length
      · rw [List.getElem?_append_left hi] at hm
        obtain ⟨e, he, hke⟩ := h3 i m hm
        refine ⟨e, ?_, hke⟩
        rw [Array.getElem?_push_lt (by omega)]
        rw [Array.getElem?_eq_getElem (by omega)] at he
        exact he
      · have hi2 : i = V.length := by
          have := (List.getElem?_eq_some_iff.1 hm).1
          simp at this
          omega
        subst hi2
        simp at hm
        subst hm
        have hp : (E.push ⟨kNum n, .int .i64 (d + (V.length : Int)), c⟩)[E.size]? = some ⟨kNum n, .int .i64 (d + (V.length : Int)), c⟩ := Array.getElem?_push_size
        rw [h2] at hp
        exact ⟨_, hp, rfl, rfl⟩
    · rw [List.nodup_append]
      exact ⟨h4, by simp, fun a ha c hc => by rw [List.mem_singleton] at hc; subst hc; exact fun e => hno (e ▸ ha)⟩
    · intro m hm
      rcases List.mem_append.1 hm with hm | hm
      · exact h5 m hm
      · rw [List.mem_singleton] at hm; subst hm; exact hn
  · exfalso
    have hmem : kNum n ∈ E.toList.map (·.key) := by
      rw [← h7]; exact List.mem_map_of_mem (List.mem_of_getElem? h6)
    rw [hkeys] at hmem
    obtain ⟨m, hm, hmn⟩ := List.mem_map.1 hmem
    exact hno (kNum_inj hmn ▸ hm)
end

set_option maxHeartbeats 2000000 in
set_option maxRecDepth 100000 in
theorem phrase11_calls (d : Int) (V : List Int) (NB NM : Nat) (n : Int) (w : World) (hbox : w.heap[NB]? = some (.cells #[.map (some NM)] 124)) (hm : NumG w NM d V) (hn : In64 n) (hd : In64 d ∧ In64 (d + V.length)) :
    Calls Try.prog 89 #[.int .i64 n, .pointer (some ⟨NB, 0, none⟩)] w (RetTmW (w.heap.size ≤ ·) (swapF d V n) w) := by
  have HBx := Lib.hid hbox
  have HM := Lib.hid hm
  have Hn := Lib.hid hn
  have Hd := Lib.hid hd
  have hNB : NB < w.heap.size := (Array.getElem?_eq_some_iff.1 hbox).1
  clear hbox hm
  generalize hQ : RetTmW (w.heap.size ≤ ·) (swapF d V n) w = Q
  have HQ := Lib.hid hQ
  clear hQ
  go_enter Try.func89, Try.ntmps89
  try simp only [List.append_eq, List.cons_append, List.nil_append]
  go_upto_region 1 with fail
  have hR0 := Blk4.new w (.int .i64 0) (.int .i64 0) (.string ⟨#[]⟩) (.slice none 0 0)
  have gA : Gr w (w.alloc (.cells #[.int .i64 0, .int .i64 0, .string ⟨#[]⟩, .slice none 0 0] 24)) := by go_grown
  generalize w.alloc (.cells #[.int .i64 0, .int .i64 0, .string ⟨#[]⟩, .slice none 0 0] 24) = wA at *
  have HR := Lib.hid hR0
  have cN := cell_of_row wA NB 0 _ _ _ ((gA.block NB hNB).trans HBx.out)
  simp only [List.getElem?_toArray, List.getElem?_cons_zero] at cN
  have hlk := (GMap.run (HM.out.gr gA).gmap (int_keyed Try.underlying2) Try.underlying124 (zero_int64 wA) (x := n) (keyOf_int_mk Try.underlying2 (wf_64 hn))).2
  have hRl := HR.out.parts.2.2
  have HRl := Lib.hid hRl
  clear hR0 hn hd hRl
  have hfin : Hid (∀ (m : Int) (w2 : World), swapF d V n = varT m → In64 m → Gr wA w2 → ∀ q0 q1 q2 q3 : Value, Q (.returned (varTm m).val) ((((w2.setCell ⟨w.heap.size, 0, none⟩ q0).setCell ⟨w.heap.size, 1, none⟩ q1).setCell ⟨w.heap.size, 2, none⟩ q2).setCell ⟨w.heap.size, 3, none⟩ q3)) := by
    intro m w2 hm hm64 hg q0 q1 q2 q3
    rw [← HQ.out, hm]
    exact ⟨varTm m, varTm_in hm64 _, varTm_erase _, rfl, Below.trans (Gr.trans gA hg) ((Kp.set4 (C := fun b => b = w.heap.size) rfl).below (fun b hb => by omega) (Gr.trans gA hg).size), varTm_on _, by rw [varTm, Tm.Whole, Tm.WholeL]; exact ⟨.inl ⟨rfl, rfl, rfl⟩, trivial⟩⟩
  by_cases hv : n ∈ V
  · have hs : numF d V n = some (.int .i64 (d + (V.idxOf n : Int))) := if_pos hv
    rw [hs] at hlk
    simp only [Option.getD_some, Option.isSome_some, kNum] at hlk
    have hsw : Hid (swapF d V n = varT (d + (V.idxOf n : Int))) := if_pos hv
    have hi64 : Hid (In64 (d + (V.idxOf n : Int))) := by
      have h1 := List.idxOf_lt_length_of_mem hv
      obtain ⟨⟨h2, h3⟩, h4, h5⟩ := Hd.out
      exact ⟨by omega, by omega⟩
    generalize d + (V.idxOf n : Int) = m at *
    clear hs hv
    go_wp2_with (first
      | (go_at_call 90
         refine (vV_calls _ _).mono ?_
         rintro e w2 ⟨rfl, hb⟩
         obtain ⟨⟨y0, y1, y2, y3⟩, ⟨f0, f1, f2, f3⟩, hlt⟩ := (HR.out.gr hb).parts
         have g2 : Gr wA w2 := hb
         clear hb)
      | fail)
    refine bodyPost_ret (v := (varTm m).val) (by simp (maxDischargeDepth := 9) [results, Try.results89, go_sem, varTm, tm_val, y0, y1, y2, y3]) rfl ?_
    exact hfin.out m _ hsw.out hi64.out g2 _ _ _ _
  · have hs : numF d V n = none := if_neg hv
    rw [hs] at hlk
    simp only [Option.getD_none, Option.isSome_none, kNum] at hlk
    have hsw : Hid (swapF d V n = varT n) := if_neg hv
    clear hs hv
    go_wp2_with (first
      | (go_at_call 90
         refine (vV_calls _ _).mono ?_
         rintro e w2 ⟨rfl, hb⟩
         obtain ⟨⟨y0, y1, y2, y3⟩, ⟨f0, f1, f2, f3⟩, hlt⟩ := (HR.out.gr hb).parts
         have g2 : Gr wA w2 := hb
         clear hb)
      | fail)
    refine bodyPost_ret (v := (varTm n).val) (by simp (maxDischargeDepth := 9) [results, Try.results89, go_sem, varTm, tm_val, y0, y1, y2, y3]) rfl ?_
    exact hfin.out n _ hsw.out Hn.out g2 _ _ _ _
end Go.Proofs.Yteonakicoomjkaa

namespace Go.Proofs.Yteonakicoomjkaa
open Go.RowKit Go.Lib Go.Maps

/-- The variables from a number on. -/
def fromOn (d : Int) (V : List Int) : List Int := V.filter fun n => decide (d ≤ n)
/-- What a body of a grammar is between two terms. -/
def phraseAns (t x y : T) : Option T :=
  match T.goal reserved t x y (behindT (T.varsL [t, x, y] [])) with
  | none => none
  | some (g, _) => if 1099511627777 < behindT (T.varsL [t, x, y] []) + ((fromOn (behindT (T.varsL [t, x, y] [])) (T.varsL [g] [])).length : Int) then none
    else some (T.map (swapF (behindT (T.varsL [t, x, y] [])) (fromOn (behindT (T.varsL [t, x, y] [])) (T.varsL [g] []))) g)

theorem fromOn_snoc (d : Int) (V : List Int) (n : Int) : fromOn d (V ++ [n]) = if d ≤ n then fromOn d V ++ [n] else fromOn d V := by
  unfold fromOn
  rw [List.filter_append]
  by_cases h : d ≤ n <;> simp [h]
theorem fromOn_len (d : Int) (V : List Int) : (fromOn d V).length ≤ V.length := List.length_filter_le _ _

theorem behind_small3 {t x y : T} (h : t.formed = true) (hx : x.formed = true) (hy : y.formed = true) : 0 ≤ behindT (T.varsL [t, x, y] []) ∧ behindT (T.varsL [t, x, y] []) ≤ 1099511627777 :=
  behindT_le (fun v hv => by
    have hV : VarsOk (T.varsL [t, x, y] []) := VarsOk.varsL _ VarsOk.nil (by rw [T.formedL, T.formedL, T.formedL, T.formedL, h, hx, hy]; rfl)
    have := (hV.2 v hv).2
    omega) (by omega)

theorem wpList_len_map {P : Program} {w : World} {ops : Array Oper} {rest : List Oper} {o : Oper} {a : Act} {Q : Exit → Act → World → Prop} (hg : o.guard = none) (m : Operand) (t : TypeId) (hop : o.op = Op.call { callee := Callee.builtin Builtin.len, args := #[m], argTypes := #[t] })
    (k e : TypeId) (ht : P.underlying t = some (.map k e)) (b : Nat) (E : Array MapEntry) (c : Nat) (hm : a.eval m = .map (some b)) (hb : w.heap[b]? = some (.map E c))
    (hK : wpList P ops Q rest (a.put o.dst (.int .i64 (E.size : Int))) w) : wpList P ops Q (o :: rest) a w := by
  refine wpList_plain hg fun K' hK' => ?_
  have hlen : (Builtin.len_ #[t] o.type #[.map (some b)]).run P w = .ok (.int .i64 (E.size : Int)) w := by simp [Builtin.len_, run_underlying ht, MapKept.run_getObj_map hb, goInt, Result.andThen]
  unfold Oper.wp
  simp [execOp, hop, resolve, invoke, builtin, hm, hlen, Result.andThen]
  exact hK' _ _ hK

set_option maxHeartbeats 8000000 in
set_option maxRecDepth 100000 in
theorem phrase1_calls (t x y : Tm) (Bt Bx By : Nat) (w : World) (hin : t.In w) (hix : x.In w) (hiy : y.In w) (hf : t.erase.formed = true) (hfx : x.erase.formed = true) (hfy : y.erase.formed = true)
    (hB : Blk4 w Bt (.int .i64 t.k) (.int .i64 t.n) (.string t.s) (.slice t.p t.l.length t.c)) (hBx : Blk4 w Bx (.int .i64 x.k) (.int .i64 x.n) (.string x.s) (.slice x.p x.l.length x.c)) (hBy : Blk4 w By (.int .i64 y.k) (.int .i64 y.n) (.string y.s) (.slice y.p y.l.length y.c)) (hsz : t.erase.size ≤ 1048576) :
    Calls Try.prog 86 #[.pointer (some ⟨Bt, 0, none⟩), .pointer (some ⟨Bx, 0, none⟩), .pointer (some ⟨By, 0, none⟩)] w (RetF (phraseAns t.erase x.erase y.erase) w) := by
  generalize hQ : RetF (phraseAns t.erase x.erase y.erase) w = Q
  have HQ := Lib.hid hQ
  have H := Lib.hid (And.intro hin (And.intro hix hiy))
  have Hf := Lib.hid (And.intro hf (And.intro hfx hfy))
  have HT := Lib.hid hB
  have HX := Lib.hid hBx
  have HY := Lib.hid hBy
  have hBl := hB.parts.2.2
  have hBxl := hBx.parts.2.2
  have hByl := hBy.parts.2.2
  have Htv := Lib.hid (show t.val = .agg #[.int .i64 t.k, .int .i64 t.n, .string t.s, .slice t.p t.l.length t.c] from rfl)
  have Hxv := Lib.hid (show x.val = .agg #[.int .i64 x.k, .int .i64 x.n, .string x.s, .slice x.p x.l.length x.c] from rfl)
  have Hyv := Lib.hid (show y.val = .agg #[.int .i64 y.k, .int .i64 y.n, .string y.s, .slice y.p y.l.length y.c] from rfl)
  have hm0 := behind_small3 hf hfx hfy
  have HVok : Hid (VarsOkB (T.varsL [t.erase, x.erase, y.erase] [])) := VarsOkB.varsL _ VarsOkB.nil (by rw [T.fmdL, T.fmdL, T.fmdL, T.fmdL, fmd_of hf, fmd_of hfx, fmd_of hfy]; rfl)
  have hAns : phraseAns t.erase x.erase y.erase = match T.goal reserved t.erase x.erase y.erase (behindT (T.varsL [t.erase, x.erase, y.erase] [])) with
    | none => none
    | some (g, _) => if 1099511627777 < behindT (T.varsL [t.erase, x.erase, y.erase] []) + ((fromOn (behindT (T.varsL [t.erase, x.erase, y.erase] [])) (T.varsL [g] [])).length : Int) then none
      else some (T.map (swapF (behindT (T.varsL [t.erase, x.erase, y.erase] [])) (fromOn (behindT (T.varsL [t.erase, x.erase, y.erase] [])) (T.varsL [g] []))) g) := rfl
  have HAns := Lib.hid hAns
  generalize hm0e : behindT (T.varsL [t.erase, x.erase, y.erase] []) = m0 at HAns hm0
  have Hm0e := Lib.hid hm0e
  clear hQ hin hix hiy hf hfx hfy hB hBx hBy hAns hm0e
  go_enter Try.func86, Try.ntmps86
  try simp only [List.append_eq, List.cons_append, List.nil_append]
  go_upto_region 1 with fail
  have hR0 := Blk4.new w (.int .i64 0) (.int .i64 0) (.string ⟨#[]⟩) (.slice none 0 0)
  have gA : Gr w (w.alloc (.cells #[.int .i64 0, .int .i64 0, .string ⟨#[]⟩, .slice none 0 0] 24)) := by go_grown
  have hsA : w.heap.size < (w.alloc (.cells #[.int .i64 0, .int .i64 0, .string ⟨#[]⟩, .slice none 0 0] 24)).heap.size := by simp
  generalize w.alloc (.cells #[.int .i64 0, .int .i64 0, .string ⟨#[]⟩, .slice none 0 0] 24) = wA at *
  have HR := Lib.hid hR0
  have HRl := Lib.hid hsA
  clear hR0 hsA
  obtain ⟨⟨t0, t1, t2, t3⟩, _, _⟩ := (HT.out.gr gA).parts
  obtain ⟨⟨x0, x1, x2, x3⟩, _, _⟩ := (HX.out.gr gA).parts
  obtain ⟨⟨y0, y1, y2, y3⟩, _, _⟩ := (HY.out.gr gA).parts
  go_upto_region 2 with (first
    | (go_at_call 80
       refine (variables_calls _ _ [t, x, y] _ (three_new (t := t) (u := x) (v := y) (Tm.In_below gA H.out.1) (Tm.In_below gA H.out.2.1) (Tm.In_below gA H.out.2.2) (Gr.rfl' _)) (fun z hz => by simp only [List.mem_cons, List.mem_nil_iff, or_false] at hz; rcases hz with rfl | rfl | rfl; exact fmd_of Hf.out.1; exact fmd_of Hf.out.2.1; exact fmd_of Hf.out.2.2)).mono ?_
       rintro e w2 ⟨vv, rfl, hio, hg⟩
       obtain ⟨pv, cv, rfl⟩ := hio.form
       have hio2 : IntSl w2 pv cv (T.varsL (Tm.eraseL [t, x, y]) []) := (hio.sl (by rw [Tm.eraseL, Tm.eraseL, Tm.eraseL, Tm.eraseL]; exact HVok.out.in64)).2
       have HIo := Lib.hid hio2
       have g2 : Gr wA w2 := below_step hg (by go_grown)
       clear hio hio2 hg)
    | (go_at_call 79
       refine (behind_calls _ _ _ _ HIo.out (by rw [Tm.eraseL, Tm.eraseL, Tm.eraseL, Tm.eraseL]; exact HVok.out)).mono ?_
       rintro e w3 ⟨rfl, hg⟩
       rw [show behindT (T.varsL (Tm.eraseL [t, x, y]) []) = m0 by rw [Tm.eraseL, Tm.eraseL, Tm.eraseL, Tm.eraseL]; exact Hm0e.out]
       have g3 : Gr wA w3 := Gr.trans g2 hg
       clear hg)
    | fail)
  clear t0 t1 t2 t3 x0 x1 x2 x3 y0 y1 y2 y3
  go_upto_region 3 with fail
  have hM4 : MakerAt w3.heap.size m0 (w3.alloc (.cells #[.int .i64 m0] 120)) := heap_alloc_new _ _
  have g34 : Gr w3 (w3.alloc (.cells #[.int .i64 m0] 120)) := by go_grown
  have hs34 : w3.heap.size < (w3.alloc (.cells #[.int .i64 m0] 120)).heap.size := by simp
  generalize w3.alloc (.cells #[.int .i64 m0] 120) = w4 at *
  have gA4 : Gr wA w4 := Gr.trans g3 g34
  have gw4 : Gr w w4 := Gr.trans gA gA4
  have hMR : w.heap.size < w3.heap.size := Nat.lt_of_lt_of_le HRl.out g3.size
  generalize w3.heap.size = M at *
  have HM4 := Lib.hid hM4
  have Hg4 := Lib.hid (goal_calls t x y M m0 w4 ⟨Tm.In_below gw4 H.out.1, Tm.In_below gw4 H.out.2.1, Tm.In_below gw4 H.out.2.2, hM4, Hf.out.1, fmd_of Hf.out.2.1, fmd_of Hf.out.2.2, by omega, by omega⟩)
  clear g3 g34 g2 hM4
  obtain ⟨⟨t0, t1, t2, t3⟩, _, _⟩ := (HT.out.gr gw4).parts
  obtain ⟨⟨x0, x1, x2, x3⟩, _, _⟩ := (HX.out.gr gw4).parts
  obtain ⟨⟨y0, y1, y2, y3⟩, _, _⟩ := (HY.out.gr gw4).parts
  go_upto_region 4 with (first
    | (go_at_call 85
       rewrite [← Htv.out, ← Hxv.out, ← Hyv.out]
       refine Hg4.out.mono ?_
       rintro e w5 (⟨g, m1, hg1, bm, rfl, hin, he, hM5, hk5⟩ | ⟨hg1, ⟨c9, rfl⟩, hk5⟩)
       (have Hbv := Lib.hid (show bm.val = .agg #[.int .i64 bm.k, .int .i64 bm.n, .string bm.s, .slice bm.p bm.l.length bm.c] from rfl)
        rewrite [Hbv.out]
        have HB := Lib.hid (And.intro hin (And.intro he (And.intro hg1 hM5)))
        have HK5 := Lib.hid hk5
        clear hin he hg1 hM5 hk5))
    | fail)
  · have hP0 := Blk4.new w5 (.int .i64 bm.k) (.int .i64 bm.n) (.string bm.s) (.slice bm.p bm.l.length bm.c)
    have gB : Gr w5 (w5.alloc (.cells #[.int .i64 bm.k, .int .i64 bm.n, .string bm.s, .slice bm.p bm.l.length bm.c] 24)) := by go_grown
    have hsP : w5.heap.size < (w5.alloc (.cells #[.int .i64 bm.k, .int .i64 bm.n, .string bm.s, .slice bm.p bm.l.length bm.c] 24)).heap.size := by simp
    generalize w5.alloc (.cells #[.int .i64 bm.k, .int .i64 bm.n, .string bm.s, .slice bm.p bm.l.length bm.c] 24) = w6 at *
    have hmm := @run_makeMap Try.prog
    go_upto_region 5 with fail
    have hNum : NumG ((w6.alloc (.map #[] 0)).alloc (.cells #[.map (some w6.heap.size)] 124)) w6.heap.size m0 [] := (NumG.made w6 m0).gr (by go_grown)
    have hbox : ((w6.alloc (.map #[] 0)).alloc (.cells #[.map (some w6.heap.size)] 124)).heap[w6.heap.size + 1]? = some (.cells #[.map (some w6.heap.size)] 124) := by
      have := heap_alloc_new (w6.alloc (.map #[] 0)) (.cells #[.map (some w6.heap.size)] 124)
      rw [World.size_alloc] at this
      exact this
    have g67 : Gr w6 ((w6.alloc (.map #[] 0)).alloc (.cells #[.map (some w6.heap.size)] 124)) := by go_grown
    generalize (w6.alloc (.map #[] 0)).alloc (.cells #[.map (some w6.heap.size)] 124) = w7 at *
    have hin6 := Tm.In_below gB HB.out.1
    have HbO : Hid (bm.On (· < w6.heap.size)) := hin6.on
    have hin7 := Tm.In_below g67 hin6
    have hgf := goal_fmd reserved _ t.erase x.erase y.erase g m0 m1 (Nat.le_refl _) Hf.out.1 (fmd_of Hf.out.2.1) (fmd_of Hf.out.2.2) (by omega) (by omega) HB.out.2.2.1
    have hbf : bm.erase.fmd = true := by rw [HB.out.2.1]; exact hgf.1
    have Hbf := Lib.hid hbf
    have hVok : VarsOkB (T.varsL [bm.erase] []) := VarsOkB.varsL _ VarsOkB.nil (by rw [T.fmdL, T.fmdL, hbf]; rfl)
    have HVk := Lib.hid hVok
    have hs4 := HK5.out.size
    have hs4w := gw4.size
    have hMl : M < w4.heap.size := HM4.out.lt
    have hord : w.heap.size < M ∧ M < w5.heap.size ∧ w5.heap.size < w6.heap.size := by omega
    have HP7 := Lib.hid ((hP0.gr g67))
    have HR7 := Lib.hid (((HR.out.gr gA4).kp HK5.out (by omega)).gr (Gr.trans gB g67))
    have k47 : Kp (· = M) w4 w7 := HK5.out.trans (Kp.of_gr (Gr.trans gB g67))
    have kw7 : Kp (· = M) w w7 := (Kp.of_gr gw4).trans k47
    have HNum := Lib.hid hNum
    have HBox := Lib.hid hbox
    have Hin7 := Lib.hid hin7
    generalize hPG : w5.heap.size = PG at *
    generalize hNMe : w6.heap.size = NM at *
    clear hNum hbox g67 gB hP0 hin6 hin7 hgf hbf hVok hmm t0 t1 t2 t3 x0 x1 x2 x3 y0 y1 y2 y3 hPG hNMe hs4 hs4w hs34 k47
    obtain ⟨hord1, hord2, hord3⟩ := hord
    have Hbv2 := Lib.hid (show bm.val = .agg #[.int .i64 bm.k, .int .i64 bm.n, .string bm.s, .slice bm.p bm.l.length bm.c] from rfl)
    obtain ⟨⟨t0, t1, t2, t3⟩, _, _⟩ := HP7.out.parts
    go_wp2_with (first
      | (go_at_call 80
         refine (variables_calls _ _ [bm] _ (one_new (t := bm) Hin7.out (Gr.rfl' _)) (fun z hz => by rw [List.mem_singleton] at hz; subst hz; exact Hbf.out)).mono ?_
         rintro e w8 ⟨vv, rfl, hio, hg⟩
         obtain ⟨pg, cg, rfl⟩ := hio.form
         have hio2 : IntSl w8 pg cg (T.varsL (Tm.eraseL [bm]) []) := (hio.sl (by rw [Tm.eraseL, Tm.eraseL]; exact HVk.out.in64)).2
         rw [show Tm.eraseL [bm] = [bm.erase] by rw [Tm.eraseL, Tm.eraseL]] at hio2 ⊢
         have HIg := Lib.hid hio2
         have g8 : Gr w7 w8 := below_step hg (by go_grown)
         clear hio hio2 hg t0 t1 t2 t3)
      | fail)
    have hVe : T.varsL [bm.erase] [] = T.varsL [g] [] := by rw [HB.out.2.1]
    have HVe := Lib.hid hVe
    generalize T.varsL [bm.erase] [] = V at *
    have hVl := HVk.out.len
    have hNM8 : NM < w8.heap.size := (HNum.out.gr g8).lt
    clear hVe
    go_loopg [29] V.length (fun m i wr => ∃ k : Nat, k ≤ V.length ∧ m = V.length - k ∧ i = .int .i64 k ∧ Hid (NumG wr NM m0 (fromOn m0 (V.take k))) ∧ Kp (· = NM) w8 wr)
    case atStart => exact ⟨0, Nat.zero_le _, rfl, rfl, HNum.out.gr g8, Kp.refl _ _⟩
    case round =>
      obtain ⟨k, hk, rfl, rfl, hnum, hkp⟩ := hrel
      have cB := cell_of_row wr (NM + 1) 0 _ _ _ ((hkp.block (NM + 1) (Nat.lt_of_lt_of_le (Array.getElem?_eq_some_iff.1 HBox.out).1 g8.size) (by omega)).trans ((g8.block _ (Array.getElem?_eq_some_iff.1 HBox.out).1).trans HBox.out))
      simp only [List.getElem?_toArray, List.getElem?_cons_zero] at cB
      obtain ⟨E, c, hE, hEs, _⟩ := id hnum.out
      have hfl := fromOn_len m0 (V.take k)
      rw [List.length_take] at hfl
      by_cases hlt : k < V.length
      · obtain ⟨b, o, rfl, _, hr⟩ := HIg.out.ptr (by omega)
        have hy : V[k]? = some V[k] := List.getElem?_eq_getElem hlt
        have c8 := hr k _ hy
        have hn := HVk.out.2 V[k] (List.getElem_mem hlt)
        have hno : V[k] ∉ V.take k := by
          have h1 : (V.take k ++ [V[k]]).Nodup := by rw [List.take_append_getElem hlt]; exact List.Nodup.sublist (List.take_sublist _ _) HVk.out.1
          rw [List.nodup_append] at h1
          exact fun hm => h1.2.2 _ hm _ (by simp) rfl
        have hsn : Hid (fromOn m0 (V.take (k + 1)) = if m0 ≤ V[k] then fromOn m0 (V.take k) ++ [V[k]] else fromOn m0 (V.take k)) := by show _ = _; rw [← fromOn_snoc, List.take_append_getElem hlt]
        have hno2 : V[k] ∉ fromOn m0 (V.take k) := fun hm => hno (List.mem_filter.1 hm).1
        have hbN : b ≠ NM := by
          rintro rfl
          obtain ⟨E8, c9, hE8, _⟩ := HNum.out.gr g8
          unfold World.cell? at c8
          simp only [hE8] at c8
          cases c8
        have c0 := Kp.cell hkp c8 (show ¬ (b = NM) from hbN)
        clear hr hy c8 hno
        generalize V[k] = n at *
        by_cases hge : m0 ≤ n
        · have hd : decide (m0 ≤ n) = true := decide_eq_true hge
          obtain ⟨w', hu, hn', hg'⟩ := NumG.push hnum.out (n := n) ⟨by omega, by omega⟩ hno2 (keyOf_int_mk Try.underlying2 (wf_64 ⟨by omega, by omega⟩))
          rw [if_pos hge] at hsn
          simp only [kNum] at hu
          have Hn' := Lib.hid hn'
          have Hg' := Lib.hid hg'
          clear hn' hg' hno2
          have hEs2 : (E.size : Int) ≤ 1099515822081 := by omega
          go_wp2_with (first
            | (at_len; refine wpList_len_map rfl _ 124 rfl 2 2 Try.underlying124 NM E c rfl hE ?_)
            | fail)
          go_roundg (V.length - (k + 1))
          case measure => omega
          case rel => exact ⟨k + 1, by omega, rfl, by go_num, by rw [hsn.out]; exact Hn'.out, hkp.trans (Kp.of_grownBy Hg'.out rfl)⟩
        · have hd : decide (m0 ≤ n) = false := decide_eq_false hge
          rw [if_neg hge] at hsn
          clear hno2
          go_wp2_with fail
          go_roundg (V.length - (k + 1))
          case measure => omega
          case rel => exact ⟨k + 1, by omega, rfl, by go_num, by rw [hsn.out]; exact hnum.out, hkp⟩
      · obtain rfl : k = V.length := by omega
        rw [List.take_length] at hnum hEs hfl
        have hEs2 : (E.size : Int) ≤ 1099515822081 := by omega
        have hP := HP7.out.gr g8
        obtain ⟨⟨p0, p1, p2, p3⟩, _, _⟩ := (hP.kp hkp (by omega)).parts
        have hRr := ((HR7.out.gr g8).kp hkp (by omega))
        have HRr := Lib.hid hRr
        have hinr := in_kp (Tm.In_below g8 Hin7.out) HbO.out (fun b hb => (by have : b < NM := hb; omega)) hkp
        have Hinr := Lib.hid hinr
        have kwr : Kp (fun b => b = M ∨ b = NM) w wr := ((kw7.trans (Kp.of_gr g8)).mono fun _ h => .inl h).trans (hkp.mono fun _ h => .inr h)
        have HKr := Lib.hid kwr
        clear hP hRr hinr kwr
        by_cases hbig : (1099511627777 : Int) < m0 + (E.size : Int)
        · go_wp2_with (first
            | (at_len; refine wpList_len_map rfl _ 124 rfl 2 2 Try.underlying124 NM E c rfl hE ?_)
            | (go_at_call 87; refine (fail_calls _ _).mono ?_; rintro e w9 ⟨rfl, hb2⟩)
            | fail)
          refine ⟨rfl, ?_⟩
          rw [← HQ.out, HAns.out, HB.out.2.2.1]
          dsimp only
          rw [← HVe.out, if_pos (by rw [← hEs]; exact hbig)]
          exact .inr ⟨rfl, ⟨_, rfl⟩, (HKr.out.trans (Kp.of_gr hb2)).below (B := w.heap.size) (fun b hb => by rcases hb with hb | hb <;> omega) (Nat.le_refl _)⟩
        · have hbd : decide ((1099511627777 : Int) < m0 + (E.size : Int)) = false := decide_eq_false hbig
          have hmfn : MapFnW (.func (.func 89) #[] #[.pointer (some ⟨NM + 1, 0, none⟩)]) (swapF m0 (fromOn m0 V)) wr :=
            ⟨89, #[.pointer (some ⟨NM + 1, 0, none⟩)], rfl, fun n W => by kernel_rfl, fun n W hW hn => phrase11_calls m0 (fromOn m0 V) (NM + 1) NM n W
              ((hW.block _ (Nat.lt_of_lt_of_le (Array.getElem?_eq_some_iff.1 HBox.out).1 (Nat.le_trans g8.size hkp.size))).trans ((hkp.block (NM + 1) (Nat.lt_of_lt_of_le (Array.getElem?_eq_some_iff.1 HBox.out).1 g8.size) (by omega)).trans ((g8.block _ (Array.getElem?_eq_some_iff.1 HBox.out).1).trans HBox.out)))
              (hnum.out.gr hW) hn ⟨⟨by omega, by omega⟩, by omega, by omega⟩⟩
          have Hmfn := Lib.hid hmfn
          have hmf : ∀ (fn : Fn) (first cap : Array Value) (w : World), (Instr.makeFunc fn first cap).run Try.prog w = .ok (.func fn first cap) w := fun _ _ _ _ => rfl
          clear hmfn
          go_wp2_with (first
            | (at_len; refine wpList_len_map rfl _ 124 rfl 2 2 Try.underlying124 NM E c rfl hE ?_)
            | (go_at_call 88
               rewrite [← Hbv2.out]
               refine (mapWB_calls Hinr.out Hbf.out Hmfn.out).mono ?_
               rintro e w9 ⟨⟨kb, nb, sb, pb, cb, lb⟩, hin, he, rfl, hg, hon, hwh⟩
               rewrite [tm_val]
               obtain ⟨⟨r0, r1, r2, r3⟩, ⟨f0, f1, f2, f3⟩, hlt2⟩ := (HRr.out.gr hg).parts
               have HX := Lib.hid (And.intro hin (And.intro he (And.intro hon (And.intro hwh hg))))
               clear hin he hg hon hwh p0 p1 p2 p3)
            | fail)
          refine bodyPost_ret (v := (Tm.mk kb nb sb pb cb lb).val) (by simp (maxDischargeDepth := 9) [results, Try.results86, go_sem, tm_val, r0, r1, r2, r3]) rfl ?_
          obtain ⟨hin, he, hon, hwh, hg⟩ := HX.out
          rw [← HQ.out, HAns.out, HB.out.2.2.1]
          dsimp only
          rw [← HVe.out, if_neg (by rw [← hEs]; omega), ← HB.out.2.1]
          have k4 : ∀ q0 q1 q2 q3 : Value, Kp (· = w.heap.size) w9 ((((w9.setCell ⟨w.heap.size, 0, none⟩ q0).setCell ⟨w.heap.size, 1, none⟩ q1).setCell ⟨w.heap.size, 2, none⟩ q2).setCell ⟨w.heap.size, 3, none⟩ q3) := fun _ _ _ _ => Kp.set4 (C := fun b => b = w.heap.size) rfl
          have hszr := HKr.out.size
          have hRlt := HRr.out.parts.2.2
          have hne : ∀ b, wr.heap.size ≤ b → ¬ (b = w.heap.size) := fun b hb => by omega
          have k9 := HKr.out.trans (Kp.of_gr hg)
          exact .inl ⟨_, rfl, _, rfl, in_kp hin hon hne (k4 _ _ _ _), he, whole_kp hwh hin hon hne (k4 _ _ _ _), hon.mono fun b hb => (by have : wr.heap.size ≤ b := hb; omega),
            Below.trans (k9.below (B := w.heap.size) (fun b hb => by rcases hb with hb | hb <;> omega) (Nat.le_refl _)) ((k4 _ _ _ _).below (B := w.heap.size) (fun b hb => by omega) k9.size)⟩
  · refine ⟨rfl, ?_⟩
    rw [← HQ.out, HAns.out, hg1]
    exact .inr ⟨rfl, ⟨_, rfl⟩, ((Kp.of_gr gw4).trans hk5).below (B := w.heap.size) (fun b hb => by omega) (Nat.le_refl _)⟩
end Go.Proofs.Yteonakicoomjkaa

namespace Go.Proofs.Yteonakicoomjkaa
open Go.RowKit Go.Lib

/-- P20: what a body of a grammar is between two terms, where there is such a thing. -/
def phraseO (t x y : T) : Option T := if t.formed && x.formed && y.formed then phraseAns t x y else none

set_option maxHeartbeats 4000000 in
set_option maxRecDepth 100000 in
theorem phrase_calls (t x y : Tm) (w : World) (hin : t.In w) (hix : x.In w) (hiy : y.In w) (hsz : t.erase.size ≤ 1048576) : Calls Try.prog 26 #[t.val, x.val, y.val] w (RetGd (phraseO t.erase x.erase y.erase) w) := by
  have hmf : ∀ (fn : Fn) (first cap : Array Value) (w : World), (Instr.makeFunc fn first cap).run Try.prog w = .ok (.func fn first cap) w := fun _ _ _ _ => rfl
  have H := Lib.hid (And.intro hin (And.intro hix hiy))
  have Hsz := Lib.hid hsz
  have HO := Lib.hid (show phraseO t.erase x.erase y.erase = if t.erase.formed && x.erase.formed && y.erase.formed then phraseAns t.erase x.erase y.erase else none from rfl)
  have hFl : T.formedL (Tm.eraseL [t, x, y]) = (t.erase.formed && x.erase.formed && y.erase.formed) := by rw [Tm.eraseL, Tm.eraseL, Tm.eraseL, Tm.eraseL, T.formedL, T.formedL, T.formedL, T.formedL, Bool.and_true, Bool.and_assoc]
  have hR : Hid (∀ (c : Int), phraseO t.erase x.erase y.erase = none → ∀ w', Gr w w' → RetGd (phraseO t.erase x.erase y.erase) w (.returned (.tuple #[zeroTm.val, .int .i64 c])) w') := fun c hn w' hg => by
    rw [hn]; exact ⟨zeroTm, c, rfl, zeroTm_in _, zeroTm_erase, zero_whole _, by rw [zeroTm, Tm.On, Tm.OnL]; exact ⟨.inl rfl, trivial⟩, hg, fun h => by cases h⟩
  generalize hQ : RetGd (phraseO t.erase x.erase y.erase) w = Q at hR
  have HQ := Lib.hid hQ
  clear hQ hin hix hiy hsz
  simp only [Tm.val]
  go_enter Try.func26, Try.ntmps26
  try simp only [List.append_eq, List.cons_append, List.nil_append]
  go_upto_region 1 with fail
  obtain ⟨HT, HX, HY, HR, gA⟩ := four_blocks w (.int .i64 t.k) (.int .i64 t.n) (.string t.s) (.slice t.p t.l.length t.c) (.int .i64 x.k) (.int .i64 x.n) (.string x.s) (.slice x.p x.l.length x.c) (.int .i64 y.k) (.int .i64 y.n) (.string y.s) (.slice y.p y.l.length y.c) (.int .i64 0) (.int .i64 0) (.string ⟨#[]⟩) (.slice none 0 0) _ rfl
  generalize ((((w.alloc (.cells #[.int .i64 t.k, .int .i64 t.n, .string t.s, .slice t.p t.l.length t.c] 24)).alloc (.cells #[.int .i64 x.k, .int .i64 x.n, .string x.s, .slice x.p x.l.length x.c] 24)).alloc (.cells #[.int .i64 y.k, .int .i64 y.n, .string y.s, .slice y.p y.l.length y.c] 24)).alloc (.cells #[.int .i64 0, .int .i64 0, .string ⟨#[]⟩, .slice none 0 0] 24)) = wA at *
  obtain ⟨⟨t0, t1, t2, t3⟩, _, _⟩ := HT.out.parts
  obtain ⟨⟨x0, x1, x2, x3⟩, _, _⟩ := HX.out.parts
  obtain ⟨⟨y0, y1, y2, y3⟩, _, _⟩ := HY.out.parts
  have HRl := Lib.hid (show w.heap.size + 1 + 1 + 1 < wA.heap.size from HR.out.parts.2.2)
  cases hf : (t.erase.formed && x.erase.formed && y.erase.formed) with
  | false =>
    have hn := Lib.hid (HO.out.trans (if_neg (by rw [hf]; decide)))
    have HFl := Lib.hid (hFl.trans hf)
    go_wp2_with (first
      | (go_at_call 62
         refine (all_calls (l := [t, x, y]) (three_new (t := t) (u := x) (v := y) (Tm.In_below gA H.out.1) (Tm.In_below gA H.out.2.1) (Tm.In_below gA H.out.2.2) (Gr.rfl' _))).mono ?_
         rintro e w1 ⟨rfl, hb⟩
         rw [HFl.out]
         have g1 : Gr wA w1 := below_step hb (by go_grown)
         obtain ⟨⟨r0, r1, r2, r3⟩, ⟨f0, f1, f2, f3⟩, hlt⟩ := (HR.out.gr g1).parts
         clear hb t0 t1 t2 t3 x0 x1 x2 x3 y0 y1 y2 y3)
      | fail)
    refine bodyPost_ret (v := .tuple #[zeroTm.val, .int .i64 2]) (by simp (maxDischargeDepth := 9) [results, Try.results26, go_sem, zeroTm, tm_val, r0, r1, r2, r3]) rfl ?_
    exact hR.out 2 hn.out _ (Below.trans (Gr.trans gA g1) ((Kp.set4 (C := fun b => b = w.heap.size + 1 + 1 + 1) rfl).below (fun b hb => by omega) (Gr.trans gA g1).size))
  | true =>
    have hn := Lib.hid (HO.out.trans (if_pos hf))
    have HFl := Lib.hid (hFl.trans hf)
    have Hf := Lib.hid hf
    have hf2 := hf
    rw [Bool.and_eq_true, Bool.and_eq_true] at hf2
    have Hf2 := Lib.hid hf2
    clear hf hf2
    go_upto_region 3 with (first
      | (go_at_call 62
         refine (all_calls (l := [t, x, y]) (three_new (t := t) (u := x) (v := y) (Tm.In_below gA H.out.1) (Tm.In_below gA H.out.2.1) (Tm.In_below gA H.out.2.2) (Gr.rfl' _))).mono ?_
         rintro e w1 ⟨rfl, hb⟩
         rw [HFl.out]
         have g1 : Gr wA w1 := below_step hb (by go_grown)
         obtain ⟨⟨r0, r1, r2, r3⟩, ⟨f0, f1, f2, f3⟩, hlt⟩ := (HR.out.gr g1).parts
         clear hb t0 t1 t2 t3 x0 x1 x2 x3 y0 y1 y2 y3)
      | fail)
    have hgd := guard_calls 86 #[.pointer (some ⟨w.heap.size, 0, none⟩), .pointer (some ⟨w.heap.size + 1, 0, none⟩), .pointer (some ⟨w.heap.size + 1 + 1, 0, none⟩)] (phraseAns t.erase x.erase y.erase) w1 (fun W => by kernel_rfl)
      (fun W hW => phrase1_calls t x y w.heap.size (w.heap.size + 1) (w.heap.size + 1 + 1) W (Tm.In_below (Gr.trans (Gr.trans gA g1) hW) H.out.1) (Tm.In_below (Gr.trans (Gr.trans gA g1) hW) H.out.2.1) (Tm.In_below (Gr.trans (Gr.trans gA g1) hW) H.out.2.2) Hf2.out.1.1 Hf2.out.1.2 Hf2.out.2
        ((HT.out.gr g1).gr hW) ((HX.out.gr g1).gr hW) ((HY.out.gr g1).gr hW) Hsz.out)
    have HGd := Lib.hid hgd
    clear hgd r0 r1 r2 r3 f0 f1 f2 f3 hlt
    go_wp2_with (first
      | (go_at_call 77
         refine HGd.out.mono ?_
         rintro e w3 ⟨⟨kb, nb, sb, pb, cb, lb⟩, c, rfl, hin, he, hwh, hon, hg, hc0⟩
         obtain ⟨⟨r0, r1, r2, r3⟩, ⟨f0, f1, f2, f3⟩, hlt⟩ := (HR.out.gr (Gr.trans g1 hg)).parts
         have HB2 := Lib.hid (And.intro hin (And.intro he (And.intro hwh (And.intro hon hc0))))
         have g3 : Gr w w3 := Gr.trans (Gr.trans gA g1) hg
         rewrite [tm_val]
         clear hin he hwh hon hg hc0)
      | fail)
    refine bodyPost_ret (v := .tuple #[(Tm.mk kb nb sb pb cb lb).val, .int .i64 c]) (by simp (maxDischargeDepth := 9) [results, Try.results26, go_sem, tm_val, r0, r1, r2, r3]) rfl ?_
    obtain ⟨hin, he, hwh, hon, hc0⟩ := HB2.out
    rw [← HQ.out, hn.out]
    have k4 : ∀ q0 q1 q2 q3 : Value, Kp (· = w.heap.size + 1 + 1 + 1) w3 ((((w3.setCell ⟨w.heap.size + 1 + 1 + 1, 0, none⟩ q0).setCell ⟨w.heap.size + 1 + 1 + 1, 1, none⟩ q1).setCell ⟨w.heap.size + 1 + 1 + 1, 2, none⟩ q2).setCell ⟨w.heap.size + 1 + 1 + 1, 3, none⟩ q3) := fun _ _ _ _ => Kp.set4 (C := fun b => b = w.heap.size + 1 + 1 + 1) rfl
    have hRl : w.heap.size + 1 + 1 + 1 < w1.heap.size := Nat.lt_of_lt_of_le HRl.out g1.size
    have hne : ∀ b, w1.heap.size ≤ b → ¬ (b = w.heap.size + 1 + 1 + 1) := fun b hb => by omega
    exact ⟨_, c, rfl, in_kp hin hon hne (k4 _ _ _ _), he, whole_kp hwh hin hon hne (k4 _ _ _ _), hon.mono fun b hb => (by have : w1.heap.size ≤ b := hb; omega), Below.trans g3 ((k4 _ _ _ _).below (fun b hb => by omega) g3.size), hc0⟩
end Go.Proofs.Yteonakicoomjkaa
