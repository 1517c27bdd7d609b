/-
  term.general: what its loop keeps.
  term.general of two compounds of one functor.
-/
import Derived.Test.YthncdmijledpnaaTM21
import Derived.Test.YthncdmijledpnaaTM16
namespace Go.Proofs.Ythncdmijledpnaa
open Go.RowKit Go.Maps Go.Lib

mutual
theorem gen_len : ∀ (a b : T) (E : List (T × T)), (T.gen a b E).2.length ≤ E.length + T.sz a
  | .mk k n s l, b, E => by
    rw [T.gen, T.sz]
    split
    · have := genL_len l b.l E
      show (T.genL l b.l E).2.length ≤ _
      omega
    · split
      · show E.length ≤ _
        omega
      · show List.length (if _ then E else E ++ [_]) ≤ _
        split
        · omega
        · rw [List.length_append, List.length_singleton]; omega
theorem genL_len : ∀ (l m : List T) (E : List (T × T)), (T.genL l m E).2.length ≤ E.length + T.szL l
  | [], m, E => by
    rw [T.genL]
    · show E.length ≤ _
      omega
    · intro _ _ _ _ h; cases h
  | x :: xs, [], E => by
    rw [T.genL]
    · show E.length ≤ _
      omega
    · intro _ _ _ _ _ h; cases h
  | x :: xs, y :: ys, E => by
    have h1 := gen_len x y E
    have h2 := genL_len xs ys (T.gen x y E).2
    rw [T.genL, T.szL]
    show (T.genL xs ys (T.gen x y E).2).2.length ≤ _
    omega
end
theorem genL_step (l l' : List Tm) (k : Nat) (h : k < l.length) (h' : k < l'.length) (E : List (T × T)) : T.genL (Tm.eraseL (l.drop k)) (Tm.eraseL (l'.drop k)) E =
    ((T.gen l[k].erase l'[k].erase E).1 :: (T.genL (Tm.eraseL (l.drop (k + 1))) (Tm.eraseL (l'.drop (k + 1))) (T.gen l[k].erase l'[k].erase E).2).1, (T.genL (Tm.eraseL (l.drop (k + 1))) (Tm.eraseL (l'.drop (k + 1))) (T.gen l[k].erase l'[k].erase E).2).2) := by
  rw [List.drop_eq_getElem_cons h, List.drop_eq_getElem_cons h', Tm.eraseL, Tm.eraseL, T.genL]
theorem szL_step (l : List Tm) (k : Nat) (h : k < l.length) : T.szL (Tm.eraseL (l.drop k)) = T.sz l[k].erase + T.szL (Tm.eraseL (l.drop (k + 1))) := by
  rw [List.drop_eq_getElem_cons h, Tm.eraseL, T.szL]
theorem Built.kpG {C : Nat → Prop} {w w' : World} {B : Nat} {S : Nat → Prop} {v : Value} {l : List Tm} (h : Built w B S v l) (k : Kp C w w') (hv : ∀ b, v.ownBlock = some b → ¬ C b) (hl : Tm.OnL (fun b => ¬ C b) l) : Built w' B S v l :=
  ⟨ownsRow_kpG h.1 k hv, Tm.InL_of fun x hx => kp_in (Tm.InL_mem h.2.1 x hx) (Tm.OnL_mem hl x hx) (fun _ h => h) k, h.2.2.mono fun _ hb => ⟨hb.1, Nat.lt_of_lt_of_le hb.2.1 k.size, hb.2.2⟩⟩
theorem wpList_append_termO {P : Program} {w : World} {ops : Array Oper} {rest : List Oper} {o : Oper} {a : Act} {Q : Exit → Act → World → Prop} (hgd : o.guard = none) (s y : Operand)
    (ho : o.op = .call { callee := .builtin .append, args := #[s, y], argTypes := #[23, 23] }) (hP : P = Try.prog)
    (B : Nat) (S : Nat → Prop) (v : Value) (l : List Tm) (x : Tm) (b c : Nat) (hs : a.eval s = v) (hy : a.eval y = .slice (some ⟨b, 0, none⟩) 1 c) (h : Built w B S v l) (hB : B ≤ w.heap.size)
    (hx : x.In w) (hxo : x.On fun b => (S b ∨ B ≤ b) ∧ v.ownBlock ≠ some b) (hl : (l.length + 1) * 56 ≤ 140737488351232)
    (hX : Blk4 w b (.int .i64 x.k) (.int .i64 x.n) (.string x.s) (.slice x.p x.l.length x.c))
    (hK : ∀ v' w', Built w' B S v' (l ++ [x]) → w.grownBy w' v.ownBlock → (v'.ownBlock = v.ownBlock ∨ v'.ownBlock = some w.heap.size) → wpList P ops Q rest (a.put o.dst v') w') : wpList P ops Q (o :: rest) a w := by
  subst hP
  obtain ⟨⟨c0, c1, c2, c3⟩, _, _⟩ := hX.parts
  obtain ⟨i0, hi, hz0, hz1, hz2⟩ := info_parts infoTerm
  obtain ⟨v', w', hr, h2, h3, h4⟩ := run_append_own_fresh (P := Try.prog) w B 23 o.type 25 i0 _ 4 56 Try.underlying23 hi hz0 hz1 hz2 rfl (by decide) v l.length (l.flatMap Tm.cells) h.1
    ⟨b, 0, none⟩ 1 c x.cells rfl (by
      intro j u hu
      match j, hu with
      | 0, hu => cases hu; exact c0
      | 1, hu => cases hu; exact c1
      | 2, hu => cases hu; exact c2
      | 3, hu => cases hu; exact c3
      | j + 4, hu => simp [Tm.cells] at hu) (by
      intro u hu
      simp only [Tm.cells, List.mem_cons, List.mem_nil_iff, or_false] at hu
      rcases hu with rfl | rfl | rfl | rfl <;> rfl) (by simp only [maxLen]; omega) (by omega) hB (by omega)
  refine wpList_plain hgd fun K hK' => ?_
  unfold Oper.wp execOp
  simp only [ho, resolve, invoke, builtin, Sem.run_bind, Sem.run_pure, Result.andThen_ok, List.map_toArray, List.map_cons, List.map_nil, hs, hy, hr]
  exact hK' _ _ (hK v' w' (h.snoc hx hxo h2 h3 h4) h3 h4)

/-- What the loop of term.general keeps: the first k parts are made; the pairs that were met. -/
structure GenJ (S : Nat → Prop) (P : Nat) (v0 : Value) (l0 : List Pr) (B : Nat) (la lb : List Tm) (k : Nat) (v : Value) (cm : List Tm) (vi : Value) (li : List Pr) (wi : World) : Prop where
  row : Built wi B (fun _ => False) v cm
  off : ∀ b, v.ownBlock = some b → vi.ownBlock ≠ some b
  on : Tm.OnL (fun b => vi.ownBlock ≠ some b) cm
  st : PSt S P vi li wi
  own : ∀ b, vi.ownBlock = some b → v0.ownBlock = some b ∨ B ≤ b
  cnt : cm.length = k
  one : Tm.eraseL cm ++ (T.genL (Tm.eraseL (la.drop k)) (Tm.eraseL (lb.drop k)) (seePrs li)).1 = (T.genL (Tm.eraseL la) (Tm.eraseL lb) (seePrs l0)).1
  two : (T.genL (Tm.eraseL (la.drop k)) (Tm.eraseL (lb.drop k)) (seePrs li)).2 = (T.genL (Tm.eraseL la) (Tm.eraseL lb) (seePrs l0)).2
  few : li.length + T.szL (Tm.eraseL (la.drop k)) ≤ 1048576
  mine : Tm.MineL wi cm
/-- What may have turned since. -/
def PMutB (P : Nat) (v : Value) (B : Nat) (b : Nat) : Prop := PMut P v b ∨ B ≤ b
section
variable {S : Nat → Prop} {P : Nat} {v0 : Value} {l0 : List Pr} {B : Nat} {la lb : List Tm} {k : Nat} {v : Value} {cm : List Tm} {vi : Value} {li : List Pr} {wi : World}
theorem GenJ.gr {w' : World} (h : GenJ S P v0 l0 B la lb k v cm vi li wi) (g : Gr wi w') : GenJ S P v0 l0 B la lb k v cm vi li w' :=
  ⟨h.row.gr g, h.off, h.on, h.st.gr g, h.own, h.cnt, h.one, h.two, h.few, Tm.MineL.same (S := (· < wi.heap.size)) (fun b hb => g.block b hb) (Tm.InL.on h.row.2.1) h.mine⟩
theorem GenJ.start {w : World} (h : PSt S P v0 l0 w) (hl : l0.length + T.szL (Tm.eraseL la) ≤ 1048576) : GenJ S P v0 l0 B la lb 0 (.slice none 0 0) [] v0 l0 w :=
  ⟨Built.nil w B _, (fun _ h => nomatch h), by rw [Tm.OnL]; trivial, h, fun _ hb => .inl hb, rfl, by rw [Tm.eraseL]; rfl, rfl, hl, by rw [Tm.MineL]; trivial⟩
/-- The state when the call of one pair of parts is over: the row of parts made so far stands. -/
theorem GenJ.called {x y g : Tm} {v' : Value} {l' : List Pr} {w' : World} (h : GenJ S P v0 l0 B la lb k v cm vi li wi) (hPB : P < B) (hB : B ≤ wi.heap.size) (hk : k < la.length) (hk' : k < lb.length) (hx : la[k] = x) (hy : lb[k] = y)
    (ge : g.erase = (T.gen x.erase y.erase (seePrs li)).1) (le : seePrs l' = (T.gen x.erase y.erase (seePrs li)).2) (_ : PSt S P v' l' w') (kp : Kp (PMut P vi) wi w') (on : g.On (fun b => wi.heap.size ≤ b ∧ v'.ownBlock ≠ some b))
    (ow : ∀ b, v'.ownBlock = some b → vi.ownBlock = some b ∨ wi.heap.size ≤ b) (gm : g.Mine w') :
    Built w' B (fun _ => False) v cm ∧ (∀ b, v.ownBlock = some b → v'.ownBlock ≠ some b ∧ B ≤ b ∧ b < wi.heap.size) ∧ Tm.OnL (fun b => v'.ownBlock ≠ some b) (cm ++ [g]) ∧ (∀ b, v'.ownBlock = some b → v0.ownBlock = some b ∨ B ≤ b) ∧
      Tm.eraseL (cm ++ [g]) ++ (T.genL (Tm.eraseL (la.drop (k + 1))) (Tm.eraseL (lb.drop (k + 1))) (seePrs l')).1 = (T.genL (Tm.eraseL la) (Tm.eraseL lb) (seePrs l0)).1 ∧
      (T.genL (Tm.eraseL (la.drop (k + 1))) (Tm.eraseL (lb.drop (k + 1))) (seePrs l')).2 = (T.genL (Tm.eraseL la) (Tm.eraseL lb) (seePrs l0)).2 ∧ l'.length + T.szL (Tm.eraseL (la.drop (k + 1))) ≤ 1048576 ∧ Kp (PMutB P v0 B) wi w' ∧ Tm.MineL w' (cm ++ [g]) := by
  have hstep := genL_step la lb k hk hk' (seePrs li)
  have hone := h.one
  have htwo := h.two
  rw [hx, hy] at hstep
  rw [hstep] at hone htwo
  have hv : ∀ b, v.ownBlock = some b → B ≤ b ∧ b < wi.heap.size := fun b hb => h.row.1.lt b hb
  have hoff : ∀ b, b < wi.heap.size → vi.ownBlock ≠ some b → v'.ownBlock ≠ some b := fun b hb hn e => by
    rcases ow b e with h1 | h1
    · exact hn h1
    · omega
  refine ⟨h.row.kpG kp (fun b hb hc => ?_) ((Tm.OnL.and h.row.2.2 h.on).mono fun b hb hc => ?_), fun b hb => ⟨hoff b (hv b hb).2 (h.off b hb), hv b hb⟩, Tm.OnL_of fun z hz => ?_, fun b hb => ?_, ?_, ?_, ?_, kp.mono fun b hb => ?_, Tm.MineL_of fun z hz => ?_⟩
  · have := hv b hb
    rcases hc with hc | hc
    · omega
    · exact h.off b hb hc
  · rcases hc with hc | hc
    · have := hb.1.1
      rcases this with h1 | h1
      · exact h1
      · omega
    · exact hb.2 hc
  · rcases List.mem_append.1 hz with hz | hz
    · exact (Tm.On.and (Tm.OnL_mem h.row.2.2 z hz) (Tm.OnL_mem h.on z hz)).mono fun b hb => hoff b hb.1.2.1 hb.2
    · rw [List.mem_singleton] at hz
      rw [hz]
      exact on.mono fun b hb => hb.2
  · rcases ow b hb with h1 | h1
    · exact h.own b h1
    · exact .inr (by omega)
  · rw [eraseL_append, le, List.append_assoc, Tm.eraseL, Tm.eraseL, ge]
    exact hone
  · rw [le]
    exact htwo
  · have h1 := gen_len x.erase y.erase (seePrs li)
    have h2 := szL_step la k hk
    have h3 := h.few
    rw [hx] at h2
    have h4 : (seePrs l').length = l'.length := List.length_map ..
    have h5 : (seePrs li).length = li.length := List.length_map ..
    rw [le] at h4
    omega
  · rcases hb with hb | hb
    · exact .inl (.inl hb)
    · rcases h.own b hb with h1 | h1
      · exact .inl (.inr h1)
      · exact .inr h1
  · rcases List.mem_append.1 hz with hz | hz
    · refine Tm.Mine.same (S := fun b => (b < wi.heap.size ∧ B ≤ b) ∧ vi.ownBlock ≠ some b) (fun b hb => kp.block b hb.1.1 fun hc => ?_) ((Tm.On.and (Tm.OnL_mem h.row.2.2 z hz) (Tm.OnL_mem h.on z hz)).mono fun b hb => ⟨⟨hb.1.2.1, hb.1.1.resolve_left id⟩, hb.2⟩) (Tm.MineL_mem h.mine z hz)
      rcases hc with hc | hc
      · have := hb.1.2
        omega
      · exact hb.2 hc
    · rw [List.mem_singleton] at hz
      rw [hz]
      exact gm
/-- The state when the part has been put behind the others. -/
theorem GenJ.next {g : Tm} {v' v2 : Value} {l' : List Pr} {w1 w2 : World} (hPB : P < B) (_ : B ≤ w1.heap.size) (st : PSt S P v' l' w1) (hrow : Built w2 B (fun _ => False) v2 (cm ++ [g])) (hg : w1.grownBy w2 v.ownBlock)
    (ho : v2.ownBlock = v.ownBlock ∨ v2.ownBlock = some w1.heap.size) (hlen : cm.length = k) (hv : ∀ b, v.ownBlock = some b → v'.ownBlock ≠ some b ∧ B ≤ b ∧ b < wi.heap.size) (hon : Tm.OnL (fun b => v'.ownBlock ≠ some b) (cm ++ [g])) (how : ∀ b, v'.ownBlock = some b → v0.ownBlock = some b ∨ B ≤ b)
    (h1 : Tm.eraseL (cm ++ [g]) ++ (T.genL (Tm.eraseL (la.drop (k + 1))) (Tm.eraseL (lb.drop (k + 1))) (seePrs l')).1 = (T.genL (Tm.eraseL la) (Tm.eraseL lb) (seePrs l0)).1)
    (h2 : (T.genL (Tm.eraseL (la.drop (k + 1))) (Tm.eraseL (lb.drop (k + 1))) (seePrs l')).2 = (T.genL (Tm.eraseL la) (Tm.eraseL lb) (seePrs l0)).2) (h3 : l'.length + T.szL (Tm.eraseL (la.drop (k + 1))) ≤ 1048576)
    (mi : Tm.MineL w1 (cm ++ [g])) (hb1 : Built w1 B (fun _ => False) v cm) (gi : g.In w1) (go : g.On fun b => (False ∨ B ≤ b) ∧ v.ownBlock ≠ some b) :
    GenJ S P v0 l0 B la lb (k + 1) v2 (cm ++ [g]) v' l' w2 ∧ Kp (PMutB P v0 B) w1 w2 := by
  have kp : Kp (fun b => v.ownBlock = some b) w1 w2 := ⟨hg.os, hg.tape, hg.output, hg.size, fun i hi hc => hg.block i hi (Ne.symm hc)⟩
  have hS := st.low
  refine ⟨⟨hrow, fun b hb => ?_, hon, st.kp kp (fun hc => ?_) (fun b hb hc => (hv b hc).1 hb) (fun b hb hc => ?_), how, by rw [List.length_append, hlen]; rfl, h1, h2, h3, Tm.MineL_of fun z hz => ?_⟩, kp.mono fun b hb => .inr (hv b hb).2.1⟩
  · rcases ho with ho | ho
    · exact (hv b (ho ▸ hb)).1
    · rw [ho] at hb
      cases hb
      intro e
      have := st.row.lt _ e
      omega
  · have := hv P hc
    omega
  · have := hv b hc
    have := hS b hb
    omega
  · refine Tm.Mine.same (S := fun b => b < w1.heap.size ∧ v.ownBlock ≠ some b) (fun b hb => hg.block b hb.1 (Ne.symm hb.2)) ?_ (Tm.MineL_mem mi z hz)
    rcases List.mem_append.1 hz with hz | hz
    · exact (Tm.OnL_mem hb1.2.2 z hz).mono fun b hb => hb.2
    · rw [List.mem_singleton] at hz
      rw [hz]
      exact (Tm.On.and go gi.on).mono fun b hb => ⟨hb.2, hb.1.2⟩
end
end Go.Proofs.Ythncdmijledpnaa

namespace Go.Proofs.Ythncdmijledpnaa
open Go.RowKit Go.Maps Go.Lib

def genOf (a : Tm) : Prop := ∀ (S : Nat → Prop) (P : Nat) (v : Value) (l : List Pr) (b : Tm) (w : World), a.In w → b.In w → a.erase.formed = true → b.erase.formed = true → a.On S → b.On S → PSt S P v l w → l.length + T.sz a.erase ≤ 1048576 →
  Calls Try.prog 89 #[a.val, b.val, .pointer (some ⟨P, 0, none⟩)] w (RetGen S P v l a.erase b.erase w)
/-- What the call of two parts leaves. -/
def genX (S : Nat → Prop) (P : Nat) (vi : Value) (li : List Pr) (x y : T) (w0 : World) : VP := fun val w' => ∃ (g : Tm) (v' : Value) (l' : List Pr), val = g.val ∧ g.In w' ∧ g.erase = (T.gen x y (seePrs li)).1 ∧ seePrs l' = (T.gen x y (seePrs li)).2 ∧ PSt S P v' l' w' ∧ Kp (PMut P vi) w0 w' ∧
    g.On (fun b => w0.heap.size ≤ b ∧ v'.ownBlock ≠ some b) ∧ (∀ b, v'.ownBlock = some b → vi.ownBlock = some b ∨ w0.heap.size ≤ b) ∧ g.Mine w'
theorem genX_gr {S : Nat → Prop} {P : Nat} {vi : Value} {li : List Pr} {x y : T} {w0 : World} : ∀ v w w', genX S P vi li x y w0 v w → Gr w w' → genX S P vi li x y w0 v w' := by
  rintro _ w w' ⟨g, v', l', rfl, h1, h2, h3, h4, h5, h6, h7, h8⟩ hg
  exact ⟨g, v', l', rfl, Tm.In_below hg h1, h2, h3, h4.gr hg, h5.trans (Kp.of_gr hg), h6, h7, h8.gr h1 hg⟩
def aggV : VP := fun v _ => ∃ (k n : Int) (s : ByteArray) (p : Option Addr) (m c : Nat), v = .agg #[.int .i64 k, .int .i64 n, .string s, .slice p m c]
theorem aggV_stable {R : World → World → Prop} : ∀ v w w', aggV v w → R w w' → aggV v w' := fun _ _ _ h _ => h
def sl1V : VP := fun v _ => ∃ B : Nat, v = .slice (some ⟨B, 0, none⟩) 1 1
theorem sl1V_stable {R : World → World → Prop} : ∀ v w w', sl1V v w → R w w' → sl1V v w' := fun _ _ _ h _ => h
theorem gen_alike (sa sb : ByteArray) (pa pb : Option Addr) (ca cb : Nat) (la lb : List Tm) (he : sa.toList = sb.toList) (hl : la.length = lb.length) (E : List (T × T)) :
    T.gen (Tm.mk 4 0 sa pa ca la).erase (Tm.mk 4 0 sb pb cb lb).erase E = (.mk 4 0 sa.toList (T.genL (Tm.eraseL la) (Tm.eraseL lb) E).1, (T.genL (Tm.eraseL la) (Tm.eraseL lb) E).2) := by
  rw [Tm.erase, Tm.erase, T.gen, if_pos (by simp [T.alike, T.k, T.s, T.l, he, Tm.eraseL_length, hl])]
  rfl

set_option maxHeartbeats 4000000 in
set_option maxRecDepth 100000 in
theorem gen_comp (sa sb : ByteArray) (pa pb : Option Addr) (ca cb : Nat) (la lb : List Tm) (he : sa.toList = sb.toList) (hll : la.length = lb.length) (ih : ∀ x ∈ la, genOf x) (S : Nat → Prop) (P : Nat) (v : Value) (l : List Pr) (w : World) (ia : (Tm.mk 4 0 sa pa ca la).In w) (ib : (Tm.mk 4 0 sb pb cb lb).In w)
    (fa : (Tm.mk 4 0 sa pa ca la).erase.formed = true) (fb : (Tm.mk 4 0 sb pb cb lb).erase.formed = true) (oa : (Tm.mk 4 0 sa pa ca la).On S) (ob : (Tm.mk 4 0 sb pb cb lb).On S) (st : PSt S P v l w) (sz : l.length + T.sz (Tm.mk 4 0 sa pa ca la).erase ≤ 1048576) :
    Calls Try.prog 89 #[(Tm.mk 4 0 sa pa ca la).val, (Tm.mk 4 0 sb pb cb lb).val, .pointer (some ⟨P, 0, none⟩)] w (RetGen S P v l (Tm.mk 4 0 sa pa ca la).erase (Tm.mk 4 0 sb pb cb lb).erase w) := by
  have Ia := Lib.hid ia
  have Ib := Lib.hid ib
  have Oa := Lib.hid oa
  have Ob := Lib.hid ob
  have St := Lib.hid st
  have E4 : Hid (lb.length = la.length) := hll.symm
  have Hih := Lib.hid ih
  have hPl := st.lt
  have hvl : Hid (∀ b, v.ownBlock = some b → P < b ∧ b < w.heap.size) := fun b hb => ⟨st.own hb, (st.row.lt b hb).2⟩
  have hSl : Hid (∀ b, S b → b < P) := st.low
  obtain ⟨-, h100, hl1, hl50, hfla⟩ := formed_elem rfl fa
  obtain ⟨-, -, -, -, hflb⟩ := formed_elem rfl fb
  have Hfla := Lib.hid hfla
  have Hflb := Lib.hid hflb
  have hs : sa.size ≤ 140737488351232 := by omega
  have Hs := Lib.hid hs
  have hsz : l.length + T.szL (Tm.eraseL la) ≤ 1048576 := by rw [Tm.erase, T.sz] at sz; omega
  have Hsz := Lib.hid hsz
  have hgen := gen_alike sa sb pa pb ca cb la lb he hll (seePrs l)
  have hQ0 : Hid (∀ (g : Tm) v' l' w', g.In w' → g.erase = .mk 4 0 sa.toList (T.genL (Tm.eraseL la) (Tm.eraseL lb) (seePrs l)).1 → seePrs l' = (T.genL (Tm.eraseL la) (Tm.eraseL lb) (seePrs l)).2 → PSt S P v' l' w' → Kp (PMut P v) w w' →
      g.On (fun x => w.heap.size ≤ x ∧ v'.ownBlock ≠ some x) → (∀ x, v'.ownBlock = some x → v.ownBlock = some x ∨ w.heap.size ≤ x) → g.Mine w' → RetGen S P v l (Tm.mk 4 0 sa pa ca la).erase (Tm.mk 4 0 sb pb cb lb).erase w (.returned g.val) w') := fun g v' l' w' h1 h2 h3 h4 h5 h6 h7 h8 =>
    ⟨g, v', l', rfl, h1, by rw [h2, hgen], by rw [h3, hgen], h4, h5, h6, h7, h8⟩
  generalize RetGen S P v l (Tm.mk 4 0 sa pa ca la).erase (Tm.mk 4 0 sb pb cb lb).erase w = Q at hQ0 ⊢
  have HQ := hQ0
  have e3' : (sa.toList == sb.toList) = true := by simp [he]
  rw [show (Tm.mk 4 0 sa pa ca la).val = .agg #[.int .i64 4, .int .i64 0, .string sa, .slice pa la.length ca] from rfl, show (Tm.mk 4 0 sb pb cb lb).val = .agg #[.int .i64 4, .int .i64 0, .string sb, .slice pb lb.length cb] from rfl, E4.out]
  clear ia ib oa ob st ih fa fb hfla hflb hs hsz sz hgen hQ0 hll he h100
  go_enter Try.func89, Try.ntmps89
  try simp only [List.append_eq, List.cons_append, List.nil_append]
  go_upto_region 1 with fail
  obtain ⟨h3, h4, h5, gA⟩ := three_blocks w (.int .i64 4) (.int .i64 0) (.string sa) (.slice pa la.length ca) (.int .i64 4) (.int .i64 0) (.string sb) (.slice pb la.length cb) (.int .i64 0) (.int .i64 0) (.string ⟨#[]⟩) (.slice none 0 0)
  have sA : (((w.alloc (.cells #[.int .i64 4, .int .i64 0, .string sa, .slice pa la.length ca] 25)).alloc (.cells #[.int .i64 4, .int .i64 0, .string sb, .slice pb la.length cb] 25)).alloc (.cells #[.int .i64 0, .int .i64 0, .string ⟨#[]⟩, .slice none 0 0] 25)).heap.size = w.heap.size + 3 := by simp
  generalize (((w.alloc (.cells #[.int .i64 4, .int .i64 0, .string sa, .slice pa la.length ca] 25)).alloc (.cells #[.int .i64 4, .int .i64 0, .string sb, .slice pb la.length cb] 25)).alloc (.cells #[.int .i64 0, .int .i64 0, .string ⟨#[]⟩, .slice none 0 0] 25)) = wA at *
  have HnC : Hid (∀ b, b < wA.heap.size → b ≠ P → v.ownBlock ≠ some b → ¬ PMutB P v wA.heap.size b) := fun b h1 h2 h3 h => by
    rcases h with (h | h) | h
    · exact h2 h
    · exact h3 h
    · omega
  have HnP : Hid (∀ b, w.heap.size ≤ b → b < wA.heap.size → ¬ PMutB P v wA.heap.size b) := fun b h1 h2 => HnC.out b h2 (by omega) (fun e => by have := hvl.out b e; omega)
  have HnS : Hid (∀ b, S b → ¬ PMutB P v wA.heap.size b) := fun b h => HnC.out b (by have := hSl.out b h; omega) (by have := hSl.out b h; omega) (fun e => by have := hvl.out b e; have := hSl.out b h; omega)
  obtain ⟨⟨x0, x1, x2, x3⟩, _, _⟩ := h3.out.parts
  obtain ⟨⟨y0, y1, y2, y3⟩, _, _⟩ := h4.out.parts
  go_wp2_with fail
  clear x0 x1 x2 x3 y0 y1 y2 y3
  go_loopg [7, 39] la.length (fun m u0 i wr => ∃ (k : Nat) (cm : List Tm) (vi : Value) (li : List Pr) (u : Value), u = u0 ∧ k ≤ la.length ∧ m = la.length - k ∧ i = .int .i64 k ∧ Hid (GenJ S P v l wA.heap.size la lb k u cm vi li wr) ∧ Kp (PMutB P v wA.heap.size) wA wr)
  case atStart => exact ⟨0, [], v, l, _, rfl, Nat.zero_le _, rfl, rfl, GenJ.start (St.out.gr gA) Hsz.out, Kp.refl _ _⟩
  case round =>
    obtain ⟨k, cm, vi, li, u, rfl, hk, rfl, rfl, hj, kr⟩ := hrel
    have b3 := h3.out.kp kr (HnP.out _ (by omega) (by omega))
    have b4 := h4.out.kp kr (HnP.out _ (by omega) (by omega))
    have B5 := Lib.hid (h5.out.kp kr (HnP.out _ (by omega) (by omega)))
    have hsr : wA.heap.size ≤ wr.heap.size := kr.size
    have kw : Kp (PMutB P v wA.heap.size) w wr := (Kp.of_gr gA).trans kr
    obtain ⟨⟨x0, x1, x2, x3⟩, _, _⟩ := b3.parts
    obtain ⟨⟨y0, y1, y2, y3⟩, _, _⟩ := b4.parts
    by_cases hlt : k < la.length
    · have hlt' : k < lb.length := by have := E4.out; omega
      have hip := Ia.out
      have hit := Ib.out
      have hop := Oa.out
      have hot := Ob.out
      rw [Tm.In] at hip hit
      rw [Tm.On] at hop hot
      obtain ⟨b, o, rfl, hSb⟩ : ∃ b o, pa = some ⟨b, o, none⟩ ∧ S b := by
        rcases hop.1 with h | h
        · rw [h] at hlt; simp at hlt
        · exact h
      obtain ⟨b', o', rfl, hSb'⟩ : ∃ b o, pb = some ⟨b, o, none⟩ ∧ S b := by
        rcases hot.1 with h | h
        · rw [h] at hlt'; simp at hlt'
        · exact h
      have hlc := hip.2.2.2.1
      obtain ⟨hlc2, hlc3⟩ := hip.2.2.2.2.1
      have hr1 : Tm.row w b o la := by
        rcases hip.2.2.2.2.2.1 with h | ⟨b0, o0, he, h⟩
        · rw [h] at hlt; simp at hlt
        · cases he; exact h
      have hr2 : Tm.row w b' o' lb := by
        rcases hit.2.2.2.2.2.1 with h | ⟨b0, o0, he, h⟩
        · rw [h] at hlt'; simp at hlt'
        · cases he; exact h
      obtain ⟨c0, c1, c2, c3⟩ := hr1 k _ (List.getElem?_eq_getElem hlt)
      obtain ⟨d0, d1, d2, d3⟩ := hr2 k _ (List.getElem?_eq_getElem hlt')
      replace c0 := kw.cell c0 (HnS.out b hSb)
      replace c1 := kw.cell c1 (HnS.out b hSb)
      replace c2 := kw.cell c2 (HnS.out b hSb)
      replace c3 := kw.cell c3 (HnS.out b hSb)
      replace d0 := kw.cell d0 (HnS.out b' hSb')
      replace d1 := kw.cell d1 (HnS.out b' hSb')
      replace d2 := kw.cell d2 (HnS.out b' hSb')
      replace d3 := kw.cell d3 (HnS.out b' hSb')
      have hmem := List.getElem_mem hlt
      have hmem' := List.getElem_mem hlt'
      have Hih2 := Lib.hid (Hih.out _ hmem)
      have Oxa := Lib.hid (Tm.OnL_mem hop.2 _ hmem)
      have Oxb := Lib.hid (Tm.OnL_mem hot.2 _ hmem')
      have Ixa := Lib.hid (kp_in (Tm.InL_mem hip.2.2.2.2.2.2 _ hmem) Oxa.out (fun b hb => HnS.out b hb) kw)
      have Ixb := Lib.hid (kp_in (Tm.InL_mem hit.2.2.2.2.2.2 _ hmem') Oxb.out (fun b hb => HnS.out b hb) kw)
      have Fxa := Lib.hid (Hfla.out _ hmem)
      have Fxb := Lib.hid (Hflb.out _ hmem')
      have hown := hj.out.own
      have hfew : li.length + T.sz la[k].erase ≤ 1048576 := by
        have h1 := hj.out.few
        have h2 := szL_step la k hlt
        omega
      have Hfew := Lib.hid hfew
      have Hnxt := Lib.hid (fun (g : Tm) (v' : Value) (l' : List Pr) (w' : World) => hj.out.called (g := g) (v' := v') (l' := l') (w' := w') (x := la[k]) (y := lb[k]) (by omega) hsr hlt hlt' rfl rfl)
      have nS : ∀ c, S c → ¬ PMut P vi c := fun c hc h => by
        have h1 := hSl.out c hc
        rcases h with h | h
        · omega
        · rcases hown c h with h2 | h2
          · have := hvl.out c h2; omega
          · omega
      have nW : ∀ c, w.heap.size ≤ c → c < wA.heap.size → ¬ PMut P vi c := fun c h1 h2 h => by
        rcases h with h | h
        · omega
        · rcases hown c h with h3 | h3
          · have := hvl.out c h3; omega
          · omega
      have n1 := nS b hSb
      have n2 := nS b' hSb'
      have n3 := nW w.heap.size (Nat.le_refl _) (by omega)
      have n4 := nW (w.heap.size + 1) (by omega) (by omega)
      have hcl : cm.length = k := hj.out.cnt
      clear hip hit hop hot hr1 hr2 kw hmem hmem' hfew hown nS nW
      generalize la[k] = x at *
      generalize lb[k] = y at *
      go_upto_region 6 with fail
      refine wp_region_relyA 14 [fx u, fx (.pointer (some ⟨w.heap.size, 3, none⟩)), fx (.slice (some ⟨b, o, none⟩) la.length ca), fx (.int .i64 k), fx (.pointer (some ⟨b, o + k * 4, none⟩)), fx (.agg #[.int .i64 x.k, .int .i64 x.n, .string x.s, .slice x.p x.l.length x.c]), fx (.pointer (some ⟨w.heap.size + 1, 3, none⟩)), fx (.slice (some ⟨b', o', none⟩) la.length cb), fx (.int .i64 k), fx (.pointer (some ⟨b', o' + k * 4, none⟩)), fx (.agg #[.int .i64 y.k, .int .i64 y.n, .string y.s, .slice y.p y.l.length y.c]), fx (.pointer (some ⟨P, 0, none⟩)), aggV, sl1V]
        (Kp (PMut P vi)) (CallJ wr 114 12 13 54 55 (genX S P vi li x.erase y.erase wr)) (by kernel_rfl) (by kernel_rfl) (by decide) (by kernel_rfl) (fun _ _ h => Kp.of_gr h) (fun _ _ _ h k => Kp.trans h k) (fun w hw => CallJ.start _ hw rfl) (by repeat (first | exact StableR.nil | refine StableR.fix ?_ | refine StableR.cons aggV_stable ?_ | refine StableR.cons sl1V_stable ?_)) ?_ ?_
      · refine ⟨stepA_plain (fun _ _ h => Kp.of_gr h) (fun listed a w w' v h hg => CallJ.other genX_gr rfl listed a w w' v h hg) ?_, stepA_plain (fun _ _ h => Kp.of_gr h) (fun listed a w w' v h hg => CallJ.other genX_gr rfl listed a w w' v h hg) ?_, stepA_plain (fun _ _ h => Kp.of_gr h) (fun listed a w w' v h hg => CallJ.other genX_gr rfl listed a w w' v h hg) ?_, stepA_plain (fun _ _ h => Kp.of_gr h) (fun listed a w w' v h hg => CallJ.other genX_gr rfl listed a w w' v h hg) ?_, stepA_plain (fun _ _ h => Kp.of_gr h) (fun listed a w w' v h hg => CallJ.other genX_gr rfl listed a w w' v h hg) ?_, stepA_plain (fun _ _ h => Kp.of_gr h) (fun listed a w w' v h hg => CallJ.other genX_gr rfl listed a w w' v h hg) ?_, stepA_plain (fun _ _ h => Kp.of_gr h) (fun listed a w w' v h hg => CallJ.other genX_gr rfl listed a w w' v h hg) ?_, stepA_plain (fun _ _ h => Kp.of_gr h) (fun listed a w w' v h hg => CallJ.other genX_gr rfl listed a w w' v h hg) ?_, stepA_plain (fun _ _ h => Kp.of_gr h) (fun listed a w w' v h hg => CallJ.other genX_gr rfl listed a w w' v h hg) ?_, stepA_plain (fun _ _ h => Kp.of_gr h) (fun listed a w w' v h hg => CallJ.other genX_gr rfl listed a w w' v h hg) ?_, stepA_plain (fun _ _ h => Kp.of_gr h) (fun listed a w w' v h hg => CallJ.other genX_gr rfl listed a w w' v h hg) ?_, stepA_plain (fun _ _ h => Kp.of_gr h) (fun listed a w w' v h hg => CallJ.other genX_gr rfl listed a w w' v h hg) ?_, ?a12, ?a13, trivial⟩
        case a12 =>
          intro listed fr ww hj2 hl hpre hg hdef hold
          have h2 : fr.tmps[2]?.getD undef = .pointer (some ⟨P, 0, none⟩) := hold 2 rfl
          have hp : fr.tmps[3]?.getD undef = .pointer (some ⟨w.heap.size, 0, none⟩) := hold 3 rfl
          have hq : fr.tmps[4]?.getD undef = .pointer (some ⟨w.heap.size + 1, 0, none⟩) := hold 4 rfl
          have h7 : fr.tmps[7]?.getD undef = u := hold 7 rfl
          have h8 : fr.tmps[8]?.getD undef = .int .i64 k := hold 8 rfl
          have zc0 := Kp.cell hg c0 n1
          have zc1 := Kp.cell hg c1 n1
          have zc2 := Kp.cell hg c2 n1
          have zc3 := Kp.cell hg c3 n1
          have zd0 := Kp.cell hg d0 n2
          have zd1 := Kp.cell hg d1 n2
          have zd2 := Kp.cell hg d2 n2
          have zd3 := Kp.cell hg d3 n2
          have zx3 := Kp.cell hg x3 n3
          have zy3 := Kp.cell hg y3 n4
          have Hg := Lib.hid hg
          clear hold x0 x1 x2 x3 y0 y1 y2 y3 c0 c1 c2 c3 d0 d1 d2 d3
          clear hdef
          have gz : Gr wr ww := (hj2.no (getD_tf hl)).1
          have hcall := Hih2.out S P vi li y ww (Tm.In_below gz Ixa.out) (Tm.In_below gz Ixb.out) Fxa.out Fxb.out Oxa.out Oxb.out (hj.out.st.gr gz) Hfew.out
          have Hcall := Lib.hid (show Calls Try.prog 89 #[.agg #[.int .i64 x.k, .int .i64 x.n, .string x.s, .slice x.p x.l.length x.c], .agg #[.int .i64 y.k, .int .i64 y.n, .string y.s, .slice y.p y.l.length y.c], .pointer (some ⟨P, 0, none⟩)] ww _ from hcall)
          clear hcall
          simp [predsImp, Region.binds, dstAt, fx]
          intros
          rename_i K hK
          go_simp
          refine Hcall.out.mono ?_
          rintro e w9 ⟨g, v', l', rfl, gin, ge, le, st, kp, on, ow, gm⟩
          exact hK _ _ ⟨_, _, _, _, _, _, rfl⟩ kp (CallJ.call hj2 hl (by decide) (by decide) kp.size ⟨g, v', l', rfl, gin, ge, le, st, (Kp.of_gr gz).trans kp, on.mono fun c hc => ⟨Nat.le_trans gz.size hc.1, hc.2⟩, fun c hc => (ow c hc).imp id fun h => Nat.le_trans gz.size h, gm⟩)
        case a13 =>
          intro listed fr ww hj2 hl hpre hg hdef hold
          have h2 : fr.tmps[2]?.getD undef = .pointer (some ⟨P, 0, none⟩) := hold 2 rfl
          have hp : fr.tmps[3]?.getD undef = .pointer (some ⟨w.heap.size, 0, none⟩) := hold 3 rfl
          have hq : fr.tmps[4]?.getD undef = .pointer (some ⟨w.heap.size + 1, 0, none⟩) := hold 4 rfl
          have h7 : fr.tmps[7]?.getD undef = u := hold 7 rfl
          have h8 : fr.tmps[8]?.getD undef = .int .i64 k := hold 8 rfl
          have zc0 := Kp.cell hg c0 n1
          have zc1 := Kp.cell hg c1 n1
          have zc2 := Kp.cell hg c2 n1
          have zc3 := Kp.cell hg c3 n1
          have zd0 := Kp.cell hg d0 n2
          have zd1 := Kp.cell hg d1 n2
          have zd2 := Kp.cell hg d2 n2
          have zd3 := Kp.cell hg d3 n2
          have zx3 := Kp.cell hg x3 n3
          have zy3 := Kp.cell hg y3 n4
          have Hg := Lib.hid hg
          clear hold x0 x1 x2 x3 y0 y1 y2 y3 c0 c1 c2 c3 d0 d1 d2 d3
          clear hdef
          simp [predsImp, Region.binds, dstAt]
          rintro ⟨k1, n1, s1, p1, m1, c1, hv1⟩ K hK
          go_simp
          exact hK _ _ ⟨_, rfl⟩ (Kp.of_gr (by go_grown)) (CallJ.made genX_gr hj2 (hpre ⟨12, Ground.data⟩ (by simp) rfl) hl (by decide) (by decide) (by decide) (by go_grown) ⟨ww.heap.size, _, _, _, _, hv1, rfl, hj2.grown, Blk4.new _ _ _ _ _⟩)
        all_goals
          intro fr ww hg hold
          have h2 : fr.tmps[2]?.getD undef = .pointer (some ⟨P, 0, none⟩) := hold 2 rfl
          have hp : fr.tmps[3]?.getD undef = .pointer (some ⟨w.heap.size, 0, none⟩) := hold 3 rfl
          have hq : fr.tmps[4]?.getD undef = .pointer (some ⟨w.heap.size + 1, 0, none⟩) := hold 4 rfl
          have h7 : fr.tmps[7]?.getD undef = u := hold 7 rfl
          have h8 : fr.tmps[8]?.getD undef = .int .i64 k := hold 8 rfl
          have zc0 := Kp.cell hg c0 n1
          have zc1 := Kp.cell hg c1 n1
          have zc2 := Kp.cell hg c2 n1
          have zc3 := Kp.cell hg c3 n1
          have zd0 := Kp.cell hg d0 n2
          have zd1 := Kp.cell hg d1 n2
          have zd2 := Kp.cell hg d2 n2
          have zd3 := Kp.cell hg d3 n2
          have zx3 := Kp.cell hg x3 n3
          have zy3 := Kp.cell hg y3 n4
          have Hg := Lib.hid hg
          clear hold x0 x1 x2 x3 y0 y1 y2 y3 c0 c1 c2 c3 d0 d1 d2 d3
          simp [predsImp, Region.binds, dstAt, fx]
          intros
          rename_i K hK
          go_simp
        all_goals exact hK _ _ rfl (Gr.rfl' _)
      · intro w9 hg
        rintro u rfl _ rfl _ rfl _ rfl _ rfl _ rfl _ rfl _ rfl _ rfl _ rfl _ rfl _ rfl _ ⟨gk, gn, gs, gp, gm, gc, rfl⟩ _ ⟨B1, rfl⟩ hcj
        simp only [Act.put, List.setIfInBounds_toArray, List.set_cons_succ, List.set_cons_zero, List.drop_succ_cons, List.drop_zero] at hcj ⊢
        obtain ⟨⟨g, v', l', hgv, gin, ge, le, st, kp, on, ow, gm⟩, ⟨B, v0, v1, v2, v3, e1, e2, hB0, hblk⟩⟩ := hcj.end_ (by show 12 < 14; omega) (by show 13 < 14; omega)
        replace e2 : Value.slice (some ⟨B1, 0, none⟩) 1 1 = Value.slice (some ⟨B, 0, none⟩) 1 1 := e2
        obtain rfl : B1 = B := by cases e2; rfl
        have e3 : Value.agg #[.int .i64 g.k, .int .i64 g.n, .string g.s, .slice g.p g.l.length g.c] = Value.agg #[v0, v1, v2, v3] := hgv.symm.trans e1
        have hblk2 : Blk4 w9 B1 (.int .i64 g.k) (.int .i64 g.n) (.string g.s) (.slice g.p g.l.length g.c) := by cases e3; exact hblk
        clear hcj hgv e1 e2 e3 hblk x0 x1 x2 x3 y0 y1 y2 y3 c0 c1 c2 c3 d0 d1 d2 d3
        obtain ⟨q1, q2, q3, q4, q5, q6, q7, q8, q9⟩ := Hnxt.out g v' l' w9 ge le st kp on ow gm
        have hs9 : wA.heap.size ≤ w9.heap.size := Nat.le_trans hsr hg.size
        have gon : g.On fun b => (False ∨ wA.heap.size ≤ b) ∧ u.ownBlock ≠ some b := on.mono fun c hc => ⟨.inr (Nat.le_trans hsr hc.1), fun e => by have := (q2 c e).2.2; have := hc.1; omega⟩
        refine wpList_append_termO rfl _ _ rfl rfl wA.heap.size (fun _ => False) u cm g B1 1 (by rfl) (by rfl) q1 hs9 gin gon (by omega) hblk2 ?_
        intro u2 w10 r1 r2 r3
        obtain ⟨hJ2, k2⟩ := GenJ.next (by omega) hs9 st r1 r2 r3 hcl q2 q3 q4 q5 q6 q7 q9 q1 gin gon
        have HJ2 := Lib.hid hJ2
        have kA := (kr.trans q8).trans k2
        clear hJ2 k2 q1 q2 q3 q4 q5 q6 q7 q8 q9 gm gon hblk2 r1 r2 r3 st kp on ow gin ge le
        go_wp2_with fail
        go_roundg (la.length - (k + 1))
        case measure => omega
        case rel => exact ⟨k + 1, cm ++ [g], v', l', u2, rfl, by omega, rfl, by go_num, HJ2, kA⟩
    · obtain rfl : k = la.length := by omega
      obtain ⟨p, c, rfl, hpc, hcc⟩ := hj.out.row.form
      have hcl : cm.length = la.length := hj.out.cnt
      have hd1 : Tm.eraseL (la.drop la.length) = [] := by rw [List.drop_length, Tm.eraseL]
      have hg0 : ∀ (m : List T) (E : List (T × T)), T.genL [] m E = ([], E) := fun m E => by rw [T.genL]; intro _ _ _ _ h; cases h
      have h1 := hj.out.one
      have h2 := hj.out.two
      rw [hd1, hg0] at h1 h2
      rw [List.append_nil] at h1
      obtain ⟨-, hsl, hon⟩ := hj.out.row.sl (by omega)
      have hin := compTm_in Hs.out hsl
      have hcon : (compTm sa p c cm).On (fun x => wA.heap.size ≤ x ∧ vi.ownBlock ≠ some x) := by
        rw [compTm, Tm.On]
        refine ⟨hon.1.imp id ?_, (Tm.OnL.and hon.2 hj.out.on).mono fun x hx => ⟨hx.1.resolve_left id, hx.2⟩⟩
        rintro ⟨b, o, rfl, hb⟩
        refine ⟨b, o, rfl, hb.resolve_left id, ?_⟩
        exact hj.out.off b (by rcases hj.out.row.1.2 with ⟨h, _⟩ | ⟨g, cap, cur, h, _⟩ <;> cases h; rfl)
      have hmi : (compTm sa p c cm).Mine wr := by
        rw [compTm, Tm.Mine]
        refine ⟨.inr ⟨fun h => ?_, ?_⟩, hj.out.mine⟩
        · rw [h, List.length_nil] at hcl
          omega
        · rcases hj.out.row.1.2 with ⟨_, h⟩ | ⟨g, cap, cur, h, _, h3, _, _, h4, _⟩
          · omega
          · cases h
            exact ⟨g, cur, rfl, h3, h4⟩
      have hst := hj.out.st
      have hown := hj.out.own
      have hqq := B5.out
      have kk := Kp.sets (C := (· = w.heap.size + 2)) (w := wr) (b := w.heap.size + 2) rfl (.int .i64 4) (.int .i64 0) (.string sa) (.slice p cm.length c)
      have hvo : ∀ b, vi.ownBlock = some b → ¬ b = w.heap.size + 2 := fun b hb e => by
        rcases hown b hb with h | h
        · have := hvl.out b h; omega
        · omega
      have Hfin := Lib.hid (fun w' (gz : Gr wr w') => HQ.out (compTm sa p c cm) vi li (((((w'.setCell ⟨w.heap.size + 2, 0, none⟩ (.int .i64 4)).setCell ⟨w.heap.size + 2, 1, none⟩ (.int .i64 0)).setCell ⟨w.heap.size + 2, 2, none⟩ (.string sa)).setCell ⟨w.heap.size + 2, 3, none⟩ (.slice p cm.length c)))
        (by
          have kz := Kp.sets (C := (· = w.heap.size + 2)) (w := w') (b := w.heap.size + 2) rfl (.int .i64 4) (.int .i64 0) (.string sa) (.slice p cm.length c)
          exact kp_in (Tm.In_below gz hin) hcon (fun b hb e => by have := hb.1; omega) kz)
        (by rw [compTm, Tm.erase, h1])
        h2
        (by
          have kz := Kp.sets (C := (· = w.heap.size + 2)) (w := w') (b := w.heap.size + 2) rfl (.int .i64 4) (.int .i64 0) (.string sa) (.slice p cm.length c)
          exact (hst.gr gz).kp kz (by omega) hvo (fun b hb => by have := hSl.out b hb; omega))
        (by
          have kz := Kp.sets (C := (· = w.heap.size + 2)) (w := w') (b := w.heap.size + 2) rfl (.int .i64 4) (.int .i64 0) (.string sa) (.slice p cm.length c)
          have h9 : Kp (fun b => PMutB P v wA.heap.size b ∨ b = w.heap.size + 2) w _ := ((kw.mono fun b hb => .inl hb).trans (Kp.of_gr gz)).trans (kz.mono fun b hb => .inr hb)
          exact h9.weaken fun b hb h => by
            rcases h with (h | h) | h
            · exact h
            · omega
            · omega)
        (hcon.mono fun x hx => ⟨by have := hx.1; omega, hx.2⟩)
        (fun x hx => (hown x hx).imp id fun h => by omega)
        (by
          have kz := Kp.sets (C := (· = w.heap.size + 2)) (w := w') (b := w.heap.size + 2) rfl (.int .i64 4) (.int .i64 0) (.string sa) (.slice p cm.length c)
          exact mine_kp (hmi.gr hin gz) (Tm.In_below gz hin) hcon (fun b hb e => by have := hb.1; omega) kz))
      have hC := Lib.hid (fun w' => comp_calls sa p cm.length c w')
      clear h1 h2 hsl hon hin hcon hmi hst hown hvo kk kw hd1 hg0 hcl
      go_wp2_with fail
      refine (hC.out _).mono ?_
      rintro e w9 ⟨rfl, g9⟩
      replace g9 : Gr wr w9 := g9
      obtain ⟨⟨r0, r1, r2, r3⟩, ⟨z0, z1, z2, z3⟩, _⟩ := (Blk4.gr hqq g9).parts
      have Hb := Lib.hid (Hfin.out w9 g9)
      clear x0 x1 x2 x3 y0 y1 y2 y3 Hfin
      go_wp2_with fail
      exact bodyPost_ret (v := (compTm sa p c cm).val) (by simp (maxDischargeDepth := 9) [results, Try.results89, go_sem, compTm, Tm.val, Tm.k, Tm.n, Tm.s, Tm.p, Tm.c, Tm.l, r0, r1, r2, r3]) rfl Hb.out
end Go.Proofs.Ythncdmijledpnaa
