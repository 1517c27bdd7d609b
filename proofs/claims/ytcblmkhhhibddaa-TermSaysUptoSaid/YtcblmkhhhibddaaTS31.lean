/-
  term.General, given what term.general answers.
  term.general: what its loop keeps.
  A drawn region in two halves: the second waits for all of the first.
  The second half of a drawn region some of whose operations turn more than new memory; what is known by which operations are over speaks of the frame too.
  A drawn region with a call that turns more than new memory, whose answer is put into a slice of one: what is known while its operations go by.
-/
import Derived.Test.YtcblmkhhhibddaaTS30
import Derived.Test.YtcblmkhhhibddaaTS29
import Derived.Test.YtcblmkhhhibddaaTS19
import Derived.Test.YtcblmkhhhibddaaTS06
namespace Go.Proofs.Ytcblmkhhhibddaa
open Go.RowKit Go.Maps Go.Lib

def GenSays : Prop := ∀ (S : Nat → Prop) (P : Nat) (v : Value) (l : List Pr) (a b : Tm) (w : World), a.In w → b.In w → a.erase.formed = true → b.erase.formed = true → a.On S → b.On S → PSt S P v l w → l.length + T.sz a.erase ≤ 1048576 →
  Calls Try.prog 88 #[a.val, b.val, .pointer (some ⟨P, 0, none⟩)] w (RetGen S P v l a.erase b.erase w)

set_option maxHeartbeats 4000000 in
set_option maxRecDepth 100000 in
theorem general_says (hgen : GenSays) : GeneralSays := by
  intro p t w ip it fp ft sp st
  have Ip := Lib.hid ip
  have It := Lib.hid it
  have Fp := Lib.hid fp
  have Ft := Lib.hid ft
  have Sp := Lib.hid sp
  have hall : ∀ (w0 w' : World), Gr w w0 → Gr (w0.alloc (.cells #[.int .i64 p.k, .int .i64 p.n, .string p.s, .slice p.p p.l.length p.c, .int .i64 t.k, .int .i64 t.n, .string t.s, .slice t.p t.l.length t.c] 25)) w' → Calls Try.prog 79 #[.slice (some ⟨w0.heap.size, 0, none⟩) 2 2] w' (Ret (.bool true) w') := fun w0 w' h0 h1 => by
    have h2 := all_calls (two_new (Tm.In_below h0 ip) (Tm.In_below h0 it) h1)
    rw [show T.formedL (Tm.eraseL [p, t]) = true by simp [Tm.eraseL, T.formedL, fp, ft]] at h2
    exact h2
  have Hall := Lib.hid hall
  have Hge := Lib.hid (fun (S : Nat → Prop) (P : Nat) (v : Value) (W : World) (h1 : p.In W) (h2 : t.In W) (h3 : p.On S) (h4 : t.On S) (h5 : PSt S P v [] W) => show Calls Try.prog 88 #[.agg #[.int .i64 p.k, .int .i64 p.n, .string p.s, .slice p.p p.l.length p.c], .agg #[.int .i64 t.k, .int .i64 t.n, .string t.s, .slice t.p t.l.length t.c], .pointer (some ⟨P, 0, none⟩)] W (RetGen S P v [] p.erase t.erase W) from hgen S P v [] p t W h1 h2 fp ft h3 h4 h5 (by simpa using sp))
  have hQ0 : Hid (∀ (g : Tm) w', g.In w' → g.erase = T.lgg p.erase t.erase → Gr w w' → RetGeneral p.erase t.erase w (.returned (.tuple #[g.val, .int .i64 0])) w') := fun g w' h1 h2 h3 => ⟨g, rfl, h1, h2, h3⟩
  generalize RetGeneral p.erase t.erase w = Q at hQ0 ⊢
  have HQ := hQ0
  clear ip it fp ft sp st hQ0 hall hgen
  rw [show p.val = .agg #[.int .i64 p.k, .int .i64 p.n, .string p.s, .slice p.p p.l.length p.c] from rfl, show t.val = .agg #[.int .i64 t.k, .int .i64 t.n, .string t.s, .slice t.p t.l.length t.c] from rfl]
  go_enter Try.func30, Try.ntmps30
  try simp only [List.append_eq, List.cons_append, List.nil_append]
  go_upto_region 1 with fail
  obtain ⟨h3, h4, h5, gA⟩ := three_blocks w (.int .i64 p.k) (.int .i64 p.n) (.string p.s) (.slice p.p p.l.length p.c) (.int .i64 t.k) (.int .i64 t.n) (.string t.s) (.slice t.p t.l.length t.c) (.int .i64 0) (.int .i64 0) (.string ⟨#[]⟩) (.slice none 0 0)
  generalize (((w.alloc (.cells #[.int .i64 p.k, .int .i64 p.n, .string p.s, .slice p.p p.l.length p.c] 25)).alloc (.cells #[.int .i64 t.k, .int .i64 t.n, .string t.s, .slice t.p t.l.length t.c] 25)).alloc (.cells #[.int .i64 0, .int .i64 0, .string ⟨#[]⟩, .slice none 0 0] 25)) = wA at *
  have K5 := h5
  obtain ⟨⟨x0, x1, x2, x3⟩, _, _⟩ := h3.out.parts
  obtain ⟨⟨y0, y1, y2, y3⟩, _, _⟩ := h4.out.parts
  go_wp2_with fail
  refine (Hall.out _ _ gA (Gr.rfl' _)).mono ?_
  rintro e w1 ⟨rfl, g1⟩
  have gA1 : Gr wA w1 := Gr.trans (show Gr wA _ by go_grown) g1
  have gw1 : Gr w w1 := gA.trans gA1
  clear x0 x1 x2 x3 y0 y1 y2 y3 g1
  go_upto_region 4 with fail
  have hP : (w1.alloc (.cells #[.slice none 0 0] 22)).heap[w1.heap.size]? = some (.cells #[.slice none 0 0] 22) := heap_alloc_new w1 _
  have gP : Gr w1 (w1.alloc (.cells #[.slice none 0 0] 22)) := by go_grown
  generalize w1.alloc (.cells #[.slice none 0 0] 22) = w2 at *
  have gA2 : Gr wA w2 := gA1.trans gP
  have gw2 : Gr w w2 := gA.trans gA2
  have hst : PSt (· < w1.heap.size) w1.heap.size (.slice none 0 0) [] w2 := ⟨hP, World.ownsRow_nil w2 _ _ 8, (fun y hy => nomatch hy), fun b hb => hb⟩
  have Hst := Lib.hid hst
  have hc5 := (K5.out.gr gA1).parts.2.2
  clear hP hst
  obtain ⟨⟨x0, x1, x2, x3⟩, _, _⟩ := (h3.out.gr gA2).parts
  obtain ⟨⟨y0, y1, y2, y3⟩, _, _⟩ := (h4.out.gr gA2).parts
  go_wp2_with fail
  refine (Hge.out (· < w1.heap.size) w1.heap.size (.slice none 0 0) w2 (Tm.In_below gw2 Ip.out) (Tm.In_below gw2 It.out) ((Tm.In_below gw1 Ip.out).on) ((Tm.In_below gw1 It.out).on) Hst.out).mono ?_
  rintro e w3 ⟨g, v', l', rfl, gin, ge, -, -, k3, gon, -⟩
  have hmu : ∀ b, PMut w1.heap.size (.slice none 0 0) b → w1.heap.size ≤ b := fun b hb => by
    rcases hb with hb | hb
    · omega
    · exact nomatch hb
  have hkk : Gr w1 w3 := Below.trans gP (k3.below hmu gP.size)
  have gA3 : Gr wA w3 := gA1.trans hkk
  have gw3 : Gr w w3 := gA.trans gA3
  have hs2 : w1.heap.size ≤ w2.heap.size := gP.size
  have hge : g.erase = T.lgg p.erase t.erase := ge
  rw [show g.val = .agg #[.int .i64 g.k, .int .i64 g.n, .string g.s, .slice g.p g.l.length g.c] from rfl]
  obtain ⟨_, ⟨z0, z1, z2, z3⟩, _⟩ := (K5.out.gr gA3).parts
  obtain ⟨⟨r0, r1, r2, r3⟩, _, _⟩ := (K5.out.gr gA3).parts
  have kk := Kp.sets (C := (· = w.heap.size + 2)) (w := w3) (b := w.heap.size + 2) rfl (.int .i64 g.k) (.int .i64 g.n) (.string g.s) (.slice g.p g.l.length g.c)
  have Hb := Lib.hid (HQ.out g _ (kp_in gin gon (fun b hb e => by omega) kk) hge (Below.trans gw3 (kk.below (fun b hb => by omega) gw3.size)))
  clear x0 x1 x2 x3 y0 y1 y2 y3 kk gin gon ge hge k3
  go_wp2_with fail
  exact bodyPost_ret (v := .tuple #[g.val, .int .i64 0]) (by simp (maxDischargeDepth := 9) [results, Try.results30, go_sem, Tm.val, r0, r1, r2, r3]) rfl Hb.out
end Go.Proofs.Ytcblmkhhhibddaa

namespace Go.Proofs.Ytcblmkhhhibddaa
open Go.RowKit Go.Maps Go.Lib

mutual
theorem gen_len : ∀ (a b : T) (E : List (T × T)), (T.gen a b E).2.length ≤ E.length + T.sz a
  | .mk k n s l, b, E => by
    rw [T.gen, T.sz]
    split
    · have := genL_len l b.l E
      show (T.genL l b.l E).2.length ≤ _
      omega
    · split
      · show E.length ≤ _
        omega
      · show List.length (if _ then E else E ++ [_]) ≤ _
        split
        · omega
        · rw [List.length_append, List.length_singleton]; omega
theorem genL_len : ∀ (l m : List T) (E : List (T × T)), (T.genL l m E).2.length ≤ E.length + T.szL l
  | [], m, E => by
    rw [T.genL]
    · show E.length ≤ _
      omega
    · intro _ _ _ _ h; cases h
  | x :: xs, [], E => by
    rw [T.genL]
    · show E.length ≤ _
      omega
    · intro _ _ _ _ _ h; cases h
  | x :: xs, y :: ys, E => by
    have h1 := gen_len x y E
    have h2 := genL_len xs ys (T.gen x y E).2
    rw [T.genL, T.szL]
    show (T.genL xs ys (T.gen x y E).2).2.length ≤ _
    omega
end
theorem genL_step (l l' : List Tm) (k : Nat) (h : k < l.length) (h' : k < l'.length) (E : List (T × T)) : T.genL (Tm.eraseL (l.drop k)) (Tm.eraseL (l'.drop k)) E =
    ((T.gen l[k].erase l'[k].erase E).1 :: (T.genL (Tm.eraseL (l.drop (k + 1))) (Tm.eraseL (l'.drop (k + 1))) (T.gen l[k].erase l'[k].erase E).2).1, (T.genL (Tm.eraseL (l.drop (k + 1))) (Tm.eraseL (l'.drop (k + 1))) (T.gen l[k].erase l'[k].erase E).2).2) := by
  rw [List.drop_eq_getElem_cons h, List.drop_eq_getElem_cons h', Tm.eraseL, Tm.eraseL, T.genL]
theorem szL_step (l : List Tm) (k : Nat) (h : k < l.length) : T.szL (Tm.eraseL (l.drop k)) = T.sz l[k].erase + T.szL (Tm.eraseL (l.drop (k + 1))) := by
  rw [List.drop_eq_getElem_cons h, Tm.eraseL, T.szL]
theorem Built.kpG {C : Nat → Prop} {w w' : World} {B : Nat} {S : Nat → Prop} {v : Value} {l : List Tm} (h : Built w B S v l) (k : Kp C w w') (hv : ∀ b, v.ownBlock = some b → ¬ C b) (hl : Tm.OnL (fun b => ¬ C b) l) : Built w' B S v l :=
  ⟨ownsRow_kpG h.1 k hv, Tm.InL_of fun x hx => kp_in (Tm.InL_mem h.2.1 x hx) (Tm.OnL_mem hl x hx) (fun _ h => h) k, h.2.2.mono fun _ hb => ⟨hb.1, Nat.lt_of_lt_of_le hb.2.1 k.size, hb.2.2⟩⟩
theorem wpList_append_termO {P : Program} {w : World} {ops : Array Oper} {rest : List Oper} {o : Oper} {a : Act} {Q : Exit → Act → World → Prop} (hgd : o.guard = none) (s y : Operand)
    (ho : o.op = .call { callee := .builtin .append, args := #[s, y], argTypes := #[23, 23] }) (hP : P = Try.prog)
    (B : Nat) (S : Nat → Prop) (v : Value) (l : List Tm) (x : Tm) (b c : Nat) (hs : a.eval s = v) (hy : a.eval y = .slice (some ⟨b, 0, none⟩) 1 c) (h : Built w B S v l) (hB : B ≤ w.heap.size)
    (hx : x.In w) (hxo : x.On fun b => (S b ∨ B ≤ b) ∧ v.ownBlock ≠ some b) (hl : (l.length + 1) * 56 ≤ 140737488351232)
    (hX : Blk4 w b (.int .i64 x.k) (.int .i64 x.n) (.string x.s) (.slice x.p x.l.length x.c))
    (hK : ∀ v' w', Built w' B S v' (l ++ [x]) → w.grownBy w' v.ownBlock → (v'.ownBlock = v.ownBlock ∨ v'.ownBlock = some w.heap.size) → wpList P ops Q rest (a.put o.dst v') w') : wpList P ops Q (o :: rest) a w := by
  subst hP
  obtain ⟨⟨c0, c1, c2, c3⟩, _, _⟩ := hX.parts
  obtain ⟨i0, hi, hz0, hz1, hz2⟩ := info_parts infoTerm
  obtain ⟨v', w', hr, h2, h3, h4⟩ := run_append_own_fresh (P := Try.prog) w B 23 o.type 25 i0 _ 4 56 Try.underlying23 hi hz0 hz1 hz2 rfl (by decide) v l.length (l.flatMap Tm.cells) h.1
    ⟨b, 0, none⟩ 1 c x.cells rfl (by
      intro j u hu
      match j, hu with
      | 0, hu => cases hu; exact c0
      | 1, hu => cases hu; exact c1
      | 2, hu => cases hu; exact c2
      | 3, hu => cases hu; exact c3
      | j + 4, hu => simp [Tm.cells] at hu) (by
      intro u hu
      simp only [Tm.cells, List.mem_cons, List.mem_nil_iff, or_false] at hu
      rcases hu with rfl | rfl | rfl | rfl <;> rfl) (by simp only [maxLen]; omega) (by omega) hB (by omega)
  refine wpList_plain hgd fun K hK' => ?_
  unfold Oper.wp execOp
  simp only [ho, resolve, invoke, builtin, Sem.run_bind, Sem.run_pure, Result.andThen_ok, List.map_toArray, List.map_cons, List.map_nil, hs, hy, hr]
  exact hK' _ _ (hK v' w' (h.snoc hx hxo h2 h3 h4) h3 h4)

/-- What the loop of term.general keeps: the first k parts are made; the pairs that were met. -/
structure GenJ (S : Nat → Prop) (P : Nat) (v0 : Value) (l0 : List Pr) (B : Nat) (la lb : List Tm) (k : Nat) (v : Value) (cm : List Tm) (vi : Value) (li : List Pr) (wi : World) : Prop where
  row : Built wi B (fun _ => False) v cm
  off : ∀ b, v.ownBlock = some b → vi.ownBlock ≠ some b
  on : Tm.OnL (fun b => vi.ownBlock ≠ some b) cm
  st : PSt S P vi li wi
  own : ∀ b, vi.ownBlock = some b → v0.ownBlock = some b ∨ B ≤ b
  cnt : cm.length = k
  one : Tm.eraseL cm ++ (T.genL (Tm.eraseL (la.drop k)) (Tm.eraseL (lb.drop k)) (seePrs li)).1 = (T.genL (Tm.eraseL la) (Tm.eraseL lb) (seePrs l0)).1
  two : (T.genL (Tm.eraseL (la.drop k)) (Tm.eraseL (lb.drop k)) (seePrs li)).2 = (T.genL (Tm.eraseL la) (Tm.eraseL lb) (seePrs l0)).2
  few : li.length + T.szL (Tm.eraseL (la.drop k)) ≤ 1048576
/-- What may have turned since. -/
def PMutB (P : Nat) (v : Value) (B : Nat) (b : Nat) : Prop := PMut P v b ∨ B ≤ b
section
variable {S : Nat → Prop} {P : Nat} {v0 : Value} {l0 : List Pr} {B : Nat} {la lb : List Tm} {k : Nat} {v : Value} {cm : List Tm} {vi : Value} {li : List Pr} {wi : World}
theorem GenJ.gr {w' : World} (h : GenJ S P v0 l0 B la lb k v cm vi li wi) (g : Gr wi w') : GenJ S P v0 l0 B la lb k v cm vi li w' :=
  ⟨h.row.gr g, h.off, h.on, h.st.gr g, h.own, h.cnt, h.one, h.two, h.few⟩
theorem GenJ.start {w : World} (h : PSt S P v0 l0 w) (hl : l0.length + T.szL (Tm.eraseL la) ≤ 1048576) : GenJ S P v0 l0 B la lb 0 (.slice none 0 0) [] v0 l0 w :=
  ⟨Built.nil w B _, (fun _ h => nomatch h), by rw [Tm.OnL]; trivial, h, fun _ hb => .inl hb, rfl, by rw [Tm.eraseL]; rfl, rfl, hl⟩
/-- The state when the call of one pair of parts is over: the row of parts made so far stands. -/
theorem GenJ.called {x y g : Tm} {v' : Value} {l' : List Pr} {w' : World} (h : GenJ S P v0 l0 B la lb k v cm vi li wi) (hPB : P < B) (hB : B ≤ wi.heap.size) (hk : k < la.length) (hk' : k < lb.length) (hx : la[k] = x) (hy : lb[k] = y)
    (ge : g.erase = (T.gen x.erase y.erase (seePrs li)).1) (le : seePrs l' = (T.gen x.erase y.erase (seePrs li)).2) (_ : PSt S P v' l' w') (kp : Kp (PMut P vi) wi w') (on : g.On (fun b => wi.heap.size ≤ b ∧ v'.ownBlock ≠ some b))
    (ow : ∀ b, v'.ownBlock = some b → vi.ownBlock = some b ∨ wi.heap.size ≤ b) :
    Built w' B (fun _ => False) v cm ∧ (∀ b, v.ownBlock = some b → v'.ownBlock ≠ some b ∧ B ≤ b ∧ b < wi.heap.size) ∧ Tm.OnL (fun b => v'.ownBlock ≠ some b) (cm ++ [g]) ∧ (∀ b, v'.ownBlock = some b → v0.ownBlock = some b ∨ B ≤ b) ∧
      Tm.eraseL (cm ++ [g]) ++ (T.genL (Tm.eraseL (la.drop (k + 1))) (Tm.eraseL (lb.drop (k + 1))) (seePrs l')).1 = (T.genL (Tm.eraseL la) (Tm.eraseL lb) (seePrs l0)).1 ∧
      (T.genL (Tm.eraseL (la.drop (k + 1))) (Tm.eraseL (lb.drop (k + 1))) (seePrs l')).2 = (T.genL (Tm.eraseL la) (Tm.eraseL lb) (seePrs l0)).2 ∧ l'.length + T.szL (Tm.eraseL (la.drop (k + 1))) ≤ 1048576 ∧ Kp (PMutB P v0 B) wi w' := by
  have hstep := genL_step la lb k hk hk' (seePrs li)
  have hone := h.one
  have htwo := h.two
  rw [hx, hy] at hstep
  rw [hstep] at hone htwo
  have hv : ∀ b, v.ownBlock = some b → B ≤ b ∧ b < wi.heap.size := fun b hb => h.row.1.lt b hb
  have hoff : ∀ b, b < wi.heap.size → vi.ownBlock ≠ some b → v'.ownBlock ≠ some b := fun b hb hn e => by
    rcases ow b e with h1 | h1
    · exact hn h1
    · omega
  refine ⟨h.row.kpG kp (fun b hb hc => ?_) ((Tm.OnL.and h.row.2.2 h.on).mono fun b hb hc => ?_), fun b hb => ⟨hoff b (hv b hb).2 (h.off b hb), hv b hb⟩, Tm.OnL_of fun z hz => ?_, fun b hb => ?_, ?_, ?_, ?_, kp.mono fun b hb => ?_⟩
  · have := hv b hb
    rcases hc with hc | hc
    · omega
    · exact h.off b hb hc
  · rcases hc with hc | hc
    · have := hb.1.1
      rcases this with h1 | h1
      · exact h1
      · omega
    · exact hb.2 hc
  · rcases List.mem_append.1 hz with hz | hz
    · exact (Tm.On.and (Tm.OnL_mem h.row.2.2 z hz) (Tm.OnL_mem h.on z hz)).mono fun b hb => hoff b hb.1.2.1 hb.2
    · rw [List.mem_singleton] at hz
      rw [hz]
      exact on.mono fun b hb => hb.2
  · rcases ow b hb with h1 | h1
    · exact h.own b h1
    · exact .inr (by omega)
  · rw [eraseL_append, le, List.append_assoc, Tm.eraseL, Tm.eraseL, ge]
    exact hone
  · rw [le]
    exact htwo
  · have h1 := gen_len x.erase y.erase (seePrs li)
    have h2 := szL_step la k hk
    have h3 := h.few
    rw [hx] at h2
    have h4 : (seePrs l').length = l'.length := List.length_map ..
    have h5 : (seePrs li).length = li.length := List.length_map ..
    rw [le] at h4
    omega
  · rcases hb with hb | hb
    · exact .inl (.inl hb)
    · rcases h.own b hb with h1 | h1
      · exact .inl (.inr h1)
      · exact .inr h1
/-- The state when the part has been put behind the others. -/
theorem GenJ.next {g : Tm} {v' v2 : Value} {l' : List Pr} {w1 w2 : World} (hPB : P < B) (_ : B ≤ w1.heap.size) (st : PSt S P v' l' w1) (hrow : Built w2 B (fun _ => False) v2 (cm ++ [g])) (hg : w1.grownBy w2 v.ownBlock)
    (ho : v2.ownBlock = v.ownBlock ∨ v2.ownBlock = some w1.heap.size) (hlen : cm.length = k) (hv : ∀ b, v.ownBlock = some b → v'.ownBlock ≠ some b ∧ B ≤ b ∧ b < wi.heap.size) (hon : Tm.OnL (fun b => v'.ownBlock ≠ some b) (cm ++ [g])) (how : ∀ b, v'.ownBlock = some b → v0.ownBlock = some b ∨ B ≤ b)
    (h1 : Tm.eraseL (cm ++ [g]) ++ (T.genL (Tm.eraseL (la.drop (k + 1))) (Tm.eraseL (lb.drop (k + 1))) (seePrs l')).1 = (T.genL (Tm.eraseL la) (Tm.eraseL lb) (seePrs l0)).1)
    (h2 : (T.genL (Tm.eraseL (la.drop (k + 1))) (Tm.eraseL (lb.drop (k + 1))) (seePrs l')).2 = (T.genL (Tm.eraseL la) (Tm.eraseL lb) (seePrs l0)).2) (h3 : l'.length + T.szL (Tm.eraseL (la.drop (k + 1))) ≤ 1048576) :
    GenJ S P v0 l0 B la lb (k + 1) v2 (cm ++ [g]) v' l' w2 ∧ Kp (PMutB P v0 B) w1 w2 := by
  have kp : Kp (fun b => v.ownBlock = some b) w1 w2 := ⟨hg.os, hg.tape, hg.output, hg.size, fun i hi hc => hg.block i hi (Ne.symm hc)⟩
  have hS := st.low
  refine ⟨⟨hrow, fun b hb => ?_, hon, st.kp kp (fun hc => ?_) (fun b hb hc => (hv b hc).1 hb) (fun b hb hc => ?_), how, by rw [List.length_append, hlen]; rfl, h1, h2, h3⟩, kp.mono fun b hb => .inr (hv b hb).2.1⟩
  · rcases ho with ho | ho
    · exact (hv b (ho ▸ hb)).1
    · rw [ho] at hb
      cases hb
      intro e
      have := st.row.lt _ e
      omega
  · have := hv P hc
    omega
  · have := hv b hc
    have := hS b hb
    omega
end
end Go.Proofs.Ytcblmkhhhibddaa

namespace Go.Proofs.Ytcblmkhhhibddaa
open Go.RowKit

section
variable {P : Program} {ops : List Oper} {Vs : List VP} {a₀ : Act} {w₀ : World} {Q : Exit → Act → World → Prop} {m : Nat}
end
end Go.Proofs.Ytcblmkhhhibddaa

namespace Go.Proofs.Ytcblmkhhhibddaa
open Go.RowKit

section
variable {P : Program} {ops : List Oper} {Vs : List VP} {a₀ : Act} {w₀ : World} {Q : Exit → Act → World → Prop} {R : World → World → Prop} {J : Array Bool → Act → World → Prop} {m : Nat}
end

/-- Operation i makes a value at slot d of which X is known till operation j uses it up and makes one at slot d' of which Y is known. -/
structure UseJ (n i j d d' : Nat) (X Y : VP) (listed : Array Bool) (a : Act) (w : World) : Prop where
  sz : a.tmps.size = n
  one : listed.getD i false = true → listed.getD j false = false → X (a.tmps[d]?.getD undef) w
  two : listed.getD j false = true → Y (a.tmps[d']?.getD undef) w
theorem put_at {a : Act} {d : Nat} {v : Value} (h : d < a.tmps.size) : (a.put (some d) v).tmps[d]?.getD undef = v := by simp [Act.put, h]
theorem UseJ.start {n i j d d' m : Nat} {X Y : VP} {a : Act} {w : World} (hn : a.tmps.size = n) (hi : m ≤ i) (hj : m ≤ j) (listed : Array Bool) (h : ∀ k, m ≤ k → listed.getD k false = false) : UseJ n i j d d' X Y listed a w :=
  ⟨hn, (fun h1 => by rw [h i hi] at h1; cases h1), (fun h1 => by rw [h j hj] at h1; cases h1)⟩
theorem UseJ.other {n i j d d' k : Nat} {X Y : VP} (hX : ∀ v w w', X v w → Gr w w' → X v w') (hY : ∀ v w w', Y v w → Gr w w' → Y v w') {o : Option Tmp} (hi : k ≠ i) (hj : k ≠ j) (hd : o ≠ some d) (hd' : o ≠ some d') (listed : Array Bool) (a : Act) (w w' : World) (v : Value) (h : UseJ n i j d d' X Y listed a w) (hg : Gr w w') :
    UseJ n i j d d' X Y (listed.setIfInBounds k true) (a.put o v) w' where
  sz := by rw [put_size]; exact h.sz
  one := fun h1 h2 => by
    rw [getD_set_ne false hi] at h1
    rw [getD_set_ne false hj] at h2
    rw [put_ne hd]
    exact hX _ _ _ (h.one h1 h2) hg
  two := fun h1 => by
    rw [getD_set_ne false hj] at h1
    rw [put_ne hd']
    exact hY _ _ _ (h.two h1) hg
theorem UseJ.first {n i j d d' : Nat} {X Y : VP} (hY : ∀ v w w', Y v w → Gr w w' → Y v w') {listed : Array Bool} {a : Act} {w w' : World} {v : Value} (h : UseJ n i j d d' X Y listed a w) (hij : i ≠ j) (hdd : d ≠ d') (hd : d < n) (hg : Gr w w') (hv : X v w') : UseJ n i j d d' X Y (listed.setIfInBounds i true) (a.put (some d) v) w' where
  sz := by rw [put_size]; exact h.sz
  one := fun _ _ => by rw [put_at (by rw [h.sz]; exact hd)]; exact hv
  two := fun h1 => by
    rw [getD_set_ne false hij] at h1
    rw [put_ne (fun e => hdd (Option.some.inj e))]
    exact hY _ _ _ (h.two h1) hg
theorem UseJ.second {n i j d d' : Nat} {X Y : VP} {listed : Array Bool} {a : Act} {w w' : World} {v : Value} (h : UseJ n i j d d' X Y listed a w) (hl : listed.getD j true = false) (hd : d' < n) (hv : Y v w') : UseJ n i j d d' X Y (listed.setIfInBounds j true) (a.put (some d') v) w' where
  sz := by rw [put_size]; exact h.sz
  one := fun _ h2 => by
    have hi : j < listed.size := by
      rcases Nat.lt_or_ge j listed.size with h' | h'
      · exact h'
      · simp [Array.getElem?_eq_none h'] at hl
    simp [hi] at h2
  two := fun _ => by rw [put_at (by rw [h.sz]; exact hd)]; exact hv
end Go.Proofs.Ytcblmkhhhibddaa

namespace Go.Proofs.Ytcblmkhhhibddaa
open Go.RowKit

/-- A new slice of one term: the value v. -/
def oneV (B0 : Nat) (v u : Value) (w : World) : Prop := ∃ B v0 v1 v2 v3, v = .agg #[v0, v1, v2, v3] ∧ u = .slice (some ⟨B, 0, none⟩) 1 1 ∧ B0 ≤ B ∧ Blk4 w B v0 v1 v2 v3
/-- Operation i calls and hands back a value at slot d of which X is known; operation j makes a slice of it at slot e; ahead of i nothing turns. -/
structure CallJ (w0 : World) (n i j d e : Nat) (X : VP) (listed : Array Bool) (a : Act) (w : World) : Prop where
  sz : a.tmps.size = n
  no : listed.getD i false = false → Gr w0 w ∧ listed.getD j false = false
  grown : w0.heap.size ≤ w.heap.size
  yes : listed.getD i false = true → X (a.tmps[d]?.getD undef) w
  one : listed.getD j false = true → oneV w0.heap.size (a.tmps[d]?.getD undef) (a.tmps[e]?.getD undef) w
theorem CallJ.start {w0 : World} {n i j d e : Nat} {X : VP} {a : Act} {w : World} (m : Nat) (g : Gr w0 w) (hn : a.tmps.size = n) : CallJ w0 n i j d e X (Array.replicate m false) a w where
  sz := hn
  no := fun _ => ⟨g, by rw [Array.getD_eq_getD_getElem?, Array.getElem?_replicate]; split <;> rfl⟩
  grown := g.size
  yes := fun h => by rw [Array.getD_eq_getD_getElem?, Array.getElem?_replicate] at h; split at h <;> cases h
  one := fun h => by rw [Array.getD_eq_getD_getElem?, Array.getElem?_replicate] at h; split at h <;> cases h
theorem CallJ.other {w0 : World} {n i j d e k : Nat} {X : VP} (hX : ∀ v w w', X v w → Gr w w' → X v w') {o : Option Tmp} (hk : (k != i && k != j && (o != some d && o != some e)) = true) (listed : Array Bool) (a : Act) (w w' : World) (v : Value) (h : CallJ w0 n i j d e X listed a w) (hg : Gr w w') :
    CallJ w0 n i j d e X (listed.setIfInBounds k true) (a.put o v) w' := by
  simp only [Bool.and_eq_true, bne_iff_ne, ne_eq] at hk
  obtain ⟨⟨hi, hj⟩, hd, he⟩ := hk
  refine ⟨by rw [put_size]; exact h.sz, fun h1 => ?_, Nat.le_trans h.grown hg.size, fun h1 => ?_, fun h1 => ?_⟩
  · rw [getD_set_ne false hi] at h1
    rw [getD_set_ne false hj]
    exact ⟨(h.no h1).1.trans hg, (h.no h1).2⟩
  · rw [getD_set_ne false hi] at h1
    rw [put_ne hd]
    exact hX _ _ _ (h.yes h1) hg
  · rw [getD_set_ne false hj] at h1
    rw [put_ne hd, put_ne he]
    obtain ⟨B, v0, v1, v2, v3, e1, e2, e3, e4⟩ := h.one h1
    exact ⟨B, v0, v1, v2, v3, e1, e2, e3, e4.gr hg⟩
theorem getD_set_eq {l : Array Bool} {i : Nat} (h : l.getD i true = false) : (l.setIfInBounds i true).getD i false = true := by
  have hi : i < l.size := by
    rcases Nat.lt_or_ge i l.size with h' | h'
    · exact h'
    · simp [Array.getElem?_eq_none h'] at h
  simp [hi]
/-- The call is over. -/
theorem CallJ.call {w0 : World} {n i j d e : Nat} {X : VP} {listed : Array Bool} {a : Act} {w w' : World} {v : Value} (h : CallJ w0 n i j d e X listed a w) (hl : listed.getD i true = false) (hij : i ≠ j) (hd : d < n) (hs : w.heap.size ≤ w'.heap.size) (hv : X v w') :
    CallJ w0 n i j d e X (listed.setIfInBounds i true) (a.put (some d) v) w' where
  sz := by rw [put_size]; exact h.sz
  no := fun h1 => by rw [getD_set_eq hl] at h1; cases h1
  grown := Nat.le_trans h.grown hs
  yes := fun _ => by rw [put_at (by rw [h.sz]; exact hd)]; exact hv
  one := fun h1 => by
    rw [getD_set_ne false hij] at h1
    rw [(h.no (getD_tf hl)).2] at h1
    cases h1
/-- The slice is made. -/
theorem CallJ.made {w0 : World} {n i j d e : Nat} {X : VP} (hX : ∀ v w w', X v w → Gr w w' → X v w') {listed : Array Bool} {a : Act} {w w' : World} {u : Value} (h : CallJ w0 n i j d e X listed a w) (hi : listed.getD i false = true) (_ : listed.getD j true = false) (hij : i ≠ j) (hde : d ≠ e) (he : e < n) (hg : Gr w w')
    (hu : oneV w0.heap.size (a.tmps[d]?.getD undef) u w') : CallJ w0 n i j d e X (listed.setIfInBounds j true) (a.put (some e) u) w' where
  sz := by rw [put_size]; exact h.sz
  no := fun h1 => by
    rw [getD_set_ne false (Ne.symm hij)] at h1
    rw [hi] at h1
    cases h1
  grown := Nat.le_trans h.grown hg.size
  yes := fun _ => by
    rw [put_ne (fun e => hde (Option.some.inj e).symm)]
    exact hX _ _ _ (h.yes hi) hg
  one := fun _ => by
    rw [put_ne (fun e => hde (Option.some.inj e).symm), put_at (by rw [h.sz]; exact he)]
    exact hu
theorem CallJ.end_ {w0 : World} {n i j d e m : Nat} {X : VP} {a : Act} {w : World} (h : CallJ w0 n i j d e X (Array.replicate m true) a w) (hi : i < m) (hj : j < m) : X (a.tmps[d]?.getD undef) w ∧ oneV w0.heap.size (a.tmps[d]?.getD undef) (a.tmps[e]?.getD undef) w :=
  ⟨h.yes (by simp [hi]), h.one (by simp [hj])⟩
/-- Operation i turns something and hands back a value at slot d of which X is known, operation k turns something behind it; operation q goes ahead of i; ahead of i nothing turns. -/
structure PushJ (w0 : World) (n q i k d : Nat) (X : VP) (Y : World → Prop) (listed : Array Bool) (a : Act) (w : World) : Prop where
  sz : a.tmps.size = n
  ord : listed.getD i false = true → listed.getD q false = true
  no : listed.getD i false = false → Gr w0 w ∧ listed.getD k false = false
  grown : w0.heap.size ≤ w.heap.size
  one : listed.getD i false = true → listed.getD k false = false → X (a.tmps[d]?.getD undef) w
  two : listed.getD k false = true → Y w
theorem PushJ.start {w0 : World} {n q i k d : Nat} {X : VP} {Y : World → Prop} {a : Act} {w : World} (m : Nat) (g : Gr w0 w) (hn : a.tmps.size = n) : PushJ w0 n q i k d X Y (Array.replicate m false) a w where
  sz := hn
  ord := fun h => by rw [Array.getD_eq_getD_getElem?, Array.getElem?_replicate] at h; split at h <;> cases h
  no := fun _ => ⟨g, by rw [Array.getD_eq_getD_getElem?, Array.getElem?_replicate]; split <;> rfl⟩
  grown := g.size
  one := fun h => by rw [Array.getD_eq_getD_getElem?, Array.getElem?_replicate] at h; split at h <;> cases h
  two := fun h => by rw [Array.getD_eq_getD_getElem?, Array.getElem?_replicate] at h; split at h <;> cases h
theorem getD_mono {l : Array Bool} {i j : Nat} (h : l.getD i false = true) : (l.setIfInBounds j true).getD i false = true := by
  by_cases e : j = i
  · subst e
    have hi : j < l.size := by
      rcases Nat.lt_or_ge j l.size with h' | h'
      · exact h'
      · simp [Array.getElem?_eq_none h'] at h
    simp [hi]
  · rw [getD_set_ne false e]; exact h
theorem PushJ.other {w0 : World} {n q i k d j : Nat} {X : VP} {Y : World → Prop} (hX : ∀ v w w', X v w → Gr w w' → X v w') (hY : ∀ w w', Y w → Gr w w' → Y w') {o : Option Tmp} (hk : (j != i && j != k && o != some d) = true) (listed : Array Bool) (a : Act) (w w' : World) (v : Value) (h : PushJ w0 n q i k d X Y listed a w) (hg : Gr w w') :
    PushJ w0 n q i k d X Y (listed.setIfInBounds j true) (a.put o v) w' := by
  simp only [Bool.and_eq_true, bne_iff_ne, ne_eq] at hk
  obtain ⟨⟨hi, hkk⟩, hd⟩ := hk
  refine ⟨by rw [put_size]; exact h.sz, fun h1 => ?_, fun h1 => ?_, Nat.le_trans h.grown hg.size, fun h1 h2 => ?_, fun h1 => ?_⟩
  · rw [getD_set_ne false hi] at h1
    exact getD_mono (h.ord h1)
  · rw [getD_set_ne false hi] at h1
    rw [getD_set_ne false hkk]
    exact ⟨(h.no h1).1.trans hg, (h.no h1).2⟩
  · rw [getD_set_ne false hi] at h1
    rw [getD_set_ne false hkk] at h2
    rw [put_ne hd]
    exact hX _ _ _ (h.one h1 h2) hg
  · rw [getD_set_ne false hkk] at h1
    exact hY _ _ (h.two h1) hg
theorem PushJ.first {w0 : World} {n q i k d : Nat} {X : VP} {Y : World → Prop} {listed : Array Bool} {a : Act} {w w' : World} {v : Value} (h : PushJ w0 n q i k d X Y listed a w) (hl : listed.getD i true = false) (hq : listed.getD q false = true) (hik : i ≠ k) (hd : d < n) (hs : w.heap.size ≤ w'.heap.size) (hv : X v w') :
    PushJ w0 n q i k d X Y (listed.setIfInBounds i true) (a.put (some d) v) w' where
  sz := by rw [put_size]; exact h.sz
  ord := fun _ => getD_mono hq
  no := fun h1 => by rw [getD_set_eq hl] at h1; cases h1
  grown := Nat.le_trans h.grown hs
  one := fun _ _ => by rw [put_at (by rw [h.sz]; exact hd)]; exact hv
  two := fun h1 => by
    rw [getD_set_ne false hik, (h.no (getD_tf hl)).2] at h1
    cases h1
theorem PushJ.second {w0 : World} {n q i k d : Nat} {X : VP} {Y : World → Prop} {listed : Array Bool} {a : Act} {w w' : World} {v : Value} {o : Option Tmp} (h : PushJ w0 n q i k d X Y listed a w) (hi : listed.getD i false = true) (hl : listed.getD k true = false) (hik : i ≠ k) (hs : w.heap.size ≤ w'.heap.size) (hv : Y w') :
    PushJ w0 n q i k d X Y (listed.setIfInBounds k true) (a.put o v) w' where
  sz := by rw [put_size]; exact h.sz
  ord := fun _ => getD_mono (h.ord hi)
  no := fun h1 => by rw [getD_set_ne false (Ne.symm hik), hi] at h1; cases h1
  grown := Nat.le_trans h.grown hs
  one := fun _ h2 => by rw [getD_set_eq hl] at h2; cases h2
  two := fun _ => hv
theorem PushJ.end_ {w0 : World} {n q i k d m : Nat} {X : VP} {Y : World → Prop} {a : Act} {w : World} (h : PushJ w0 n q i k d X Y (Array.replicate m true) a w) (hk : k < m) : Y w := h.two (by simp [hk])
theorem getD_ft {l : Array Bool} {i : Nat} (h : ¬ l.getD i false = true) : l.getD i false = false := by
  cases hh : l.getD i false
  · rfl
  · exact absurd hh h
end Go.Proofs.Ytcblmkhhhibddaa
