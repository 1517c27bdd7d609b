/-
  hornref.place: a bind put where it belongs.
  What hornref.shapes leaves: plain, and in memory.
-/
import Derived.Test.YtcblmkhhhibddaaTS42
import Derived.Test.YtcblmkhhhibddaaTS15
import Derived.Test.YtcblmkhhhibddaaTS31
namespace Go.Proofs.Ytcblmkhhhibddaa
open Go.RowKit Go.Maps Go.Lib

theorem Bds.In.drop {w : World} {b o c : Nat} {l : List Bd} (h : (Bds.mk (some ⟨b, o, none⟩) c l).In w) (k : Nat) (hk : k ≤ l.length) : (Bds.mk (some ⟨b, o + k * 5, none⟩) (c - k) (l.drop k)).In w := by
  obtain ⟨h1, h2, h3, h4⟩ := h
  simp only at h1 h2
  refine ⟨by simp only [List.length_drop]; omega, ⟨by simp only [List.length_drop]; omega, by simp only; omega⟩, ?_, fun y hy => h4 y (List.mem_of_mem_drop hy)⟩
  rcases h3 with h3 | ⟨b', o', hp, hr⟩
  · simp only at h3
    subst h3
    exact .inl (List.drop_nil)
  · cases hp
    refine .inr ⟨b, o + k * 5, rfl, fun i x hx => ?_⟩
    rw [List.getElem?_drop] at hx
    have := hr (k + i) x hx
    rw [show o + (k + i) * 5 = o + k * 5 + i * 5 by omega] at this
    exact this

/-- place hands back the list with the bind where it belongs. -/
def RetPlace (l : List Bd) (w : World) (e : Ending) (w' : World) : Prop := ∃ p c, e = .returned (.slice p l.length c) ∧ (Bds.mk p c l).In w' ∧ Gr w w'

set_option maxHeartbeats 1000000 in
set_option maxRecDepth 100000 in
theorem place_walk (p : Option Addr) (c : Nat) (s : List Bd) (n : Int) (t : Tm) (w : World) (hs : (Bds.mk p c s).In w) (ht : t.In w) (hn : In64 n) (hlen : (s.length + 1) * 64 ≤ 140737488351232) :
    Calls Try.prog 178 #[.slice p s.length c, .int .i64 n, t.val] w (RetPlace (placeL s ⟨n, t⟩) w) := by
  have HS := Lib.hid hs
  have Ht := Lib.hid ht
  clear hs ht
  have hQ0 : Hid (∀ (k : Nat) (v : Value) (w' : World), k ≤ s.length → (∀ (j : Nat) (h : j < s.length), j < k → s[j].v < n) → (∀ (h : k < s.length), ¬ s[k].v < n) → BuiltBds w' (w.heap.size + 1) v (s.take k ++ [⟨n, t⟩] ++ s.drop k) → Gr w w' → RetPlace (placeL s ⟨n, t⟩) w (.returned v) w') := by
    intro k v w' h1 h2 h3 h4 h5
    have he : s.take k ++ [(⟨n, t⟩ : Bd)] ++ s.drop k = placeL s ⟨n, t⟩ := by
      rw [placeL_at ⟨n, t⟩ s k h1 h2 h3, List.append_assoc]; rfl
    rw [he] at h4
    obtain ⟨p, c, rfl, h6⟩ := h4.bds (by rw [placeL_length]; exact hlen) fun y hy => by
      rcases (placeL_mem _ _ _).1 hy with rfl | hy
      · exact ⟨Tm.In_below h5 Ht.out, hn⟩
      · have := (HS.out.mono h5).2.2.2 y hy
        exact this
    exact ⟨p, c, rfl, h6, h5⟩
  generalize RetPlace (placeL s ⟨n, t⟩) w = Q at hQ0 ⊢
  have HQ := hQ0
  clear hQ0
  have Htv := Lib.hid (show t.val = .agg #[.int .i64 t.k, .int .i64 t.n, .string t.s, .slice t.p t.l.length t.c] from rfl)
  rw [Htv.out]
  go_enter Try.func178, Try.ntmps178
  try simp only [List.append_eq, List.cons_append, List.nil_append]
  go_upto_region 1 with fail
  have hB := BlkT.new w 25 #[.int .i64 t.k, .int .i64 t.n, .string t.s, .slice t.p t.l.length t.c]
  have gA : Gr w (w.alloc (.cells #[.int .i64 t.k, .int .i64 t.n, .string t.s, .slice t.p t.l.length t.c] 25)) := by go_grown
  have hA : w.heap.size + 1 ≤ (w.alloc (.cells #[.int .i64 t.k, .int .i64 t.n, .string t.s, .slice t.p t.l.length t.c] 25)).heap.size := by simp
  generalize w.alloc (.cells #[.int .i64 t.k, .int .i64 t.n, .string t.s, .slice t.p t.l.length t.c] 25) = wA at *
  have HB := Lib.hid hB
  clear hB
  go_wp2_with fail
  go_loopg [7, 8] s.length (fun m v i wr => ∃ k : Nat, k ≤ s.length ∧ m = s.length - k ∧ i = .int .i64 k ∧ BuiltBds wr (w.heap.size + 1) v (s.take k) ∧ Below (w.heap.size + 1) wA wr ∧ Hid (∀ (j : Nat) (h : j < s.length), j < k → s[j].v < n))
  case atStart => exact ⟨0, Nat.zero_le _, rfl, rfl, World.ownsRow_nil _ _ _ 5, Below.refl _ _, fun j _ h => absurd h (Nat.not_lt_zero j)⟩
  case round =>
    obtain ⟨k, hk, rfl, rfl, hrow, hbl, hpre⟩ := hrel
    have Hrow := Lib.hid hrow
    clear hrow
    have gr : Gr w _ := Below.trans gA (Below.mono hbl (Nat.le_succ _))
    have hsz := Nat.le_trans hA hbl.size
    by_cases hlt : k < s.length
    · obtain ⟨b, o, rfl⟩ := HS.out.ptr (by omega)
      obtain ⟨⟨c0, c1, c2, c3, c4⟩, hti, ⟨hv1, hv2⟩, hbl0⟩ := (HS.out.mono gr).elem k hlt
      by_cases hv : s[k].v < n
      · have Hstep := Lib.hid (show ∀ (j : Nat) (h : j < s.length), j < k + 1 → s[j].v < n from fun j h hj => by
          rcases Nat.lt_or_ge j k with h1 | h1
          · exact hpre.out j h h1
          · obtain rfl : j = k := by omega
            exact hv)
        have Htk := Lib.hid (show s.take (k + 1) = s.take k ++ [s[k]] from List.take_succ_eq_append_getElem hlt)
        have htl : ((s.take k).length + 1) * 64 ≤ 140737488351232 := by rw [List.length_take]; omega
        generalize s[k] = y at *
        go_wp2_with (first
          | (refine wpList_append_bd rfl _ _ rfl rfl (w.heap.size + 1) _ (s.take k) y wr.heap.size 1 (by rfl) (by rfl) (Hrow.out.gr (by go_grown)) (by simp; omega) htl (BlkT.new wr _ _) ?_
             intro v' w4 h2 h3 h4)
          | fail)
        go_roundg (s.length - (k + 1))
        case measure => omega
        case rel => exact ⟨k + 1, by omega, rfl, by go_num, by rw [Htk.out]; exact h2, Below.trans hbl (Below.trans (Below.mono (show Gr wr _ by go_grown) hsz) (grownBy_below h3 (by simp; omega) fun b hb => Hrow.out.ge hb)), Hstep⟩
      · have HX := Lib.hid (BlkT.gr (HB.out) (show Gr wA wA from Gr.rfl' _))
        have htl : ((s.take k).length + 1) * 64 ≤ 140737488351232 := by rw [List.length_take]; omega
        have hx : BlkT wr w.heap.size 25 #[.int .i64 t.k, .int .i64 t.n, .string t.s, .slice t.p t.l.length t.c] := (hbl.block _ (Nat.lt_succ_self _)).trans HB.out
        have x0 := hx.cell 0 (v := .int .i64 t.k) rfl
        have x1 := hx.cell 1 (v := .int .i64 t.n) rfl
        have x2 := hx.cell 2 (v := .string t.s) rfl
        have x3 := hx.cell 3 (v := .slice t.p t.l.length t.c) rfl
        clear HX hx
        have Hend := Lib.hid (show ∀ (v : Value) (w' : World), BuiltBds w' (w.heap.size + 1) v (s.take k ++ [⟨n, t⟩] ++ s.drop k) → Gr w w' → Q (.returned v) w' from fun v w' h1 h2 => HQ.out k v w' hk hpre.out (fun _ => by omega) h1 h2)
        have hcl : s.length ≤ c := HS.out.1
        generalize s[k] = y at *
        go_upto_region 7 with (first
          | (refine wpList_append_bd rfl _ _ rfl rfl (w.heap.size + 1) _ (s.take k) ⟨n, t⟩ wr.heap.size 1 (by rfl) (by rfl) (Hrow.out.gr (by go_grown)) (by simp; omega) htl (BlkT.new wr _ _) ?_
             intro v' w4 h2 h3 h4)
          | fail)
        have g4 : Below (w.heap.size + 1) wr w4 := Below.trans (Below.mono (show Gr wr _ by go_grown) hsz) (grownBy_below h3 (by simp; omega) fun b hb => Hrow.out.ge hb)
        have gw4 : Gr w w4 := Below.trans gr (Below.mono g4 (Nat.le_succ _))
        obtain ⟨v5, w5, hr5, hb5, hg5, ho5⟩ := append_bds w4 (w.heap.size + 1) v' (s.take k ++ [⟨n, t⟩]) _ _ _ ((HS.out.mono gw4).drop k hk) h2 (Nat.le_trans hsz g4.size) (by simp; omega)
        rw [List.length_drop] at hr5
        have Hr5 := Lib.hid hr5
        have Hb5 := Lib.hid hb5
        have gw5 := Lib.hid (show Gr w w5 from Below.trans gw4 (Below.mono (grownBy_below hg5 (Nat.le_trans hsz g4.size) fun b hb => h2.ge hb) (Nat.le_succ _)))
        clear hr5 hb5 hg5 ho5 h2 h3 h4 x0 x1 x2 x3 c0 c1 c2 c3 c4
        go_wp2_with (first
          | (refine wpList_append_run _ rfl _ _ _ _ rfl _ _ (by rfl) (by rfl) _ _ Hr5.out ?_)
          | fail)
        exact Hend.out _ _ Hb5.out gw5.out
    · obtain rfl : k = s.length := by omega
      have htl : ((s.take s.length).length + 1) * 64 ≤ 140737488351232 := by rw [List.length_take]; omega
      have hx : BlkT wr w.heap.size 25 #[.int .i64 t.k, .int .i64 t.n, .string t.s, .slice t.p t.l.length t.c] := (hbl.block _ (Nat.lt_succ_self _)).trans HB.out
      have x0 := hx.cell 0 (v := .int .i64 t.k) rfl
      have x1 := hx.cell 1 (v := .int .i64 t.n) rfl
      have x2 := hx.cell 2 (v := .string t.s) rfl
      have x3 := hx.cell 3 (v := .slice t.p t.l.length t.c) rfl
      clear hx
      have Hend := Lib.hid (show ∀ (v : Value) (w' : World), BuiltBds w' (w.heap.size + 1) v (s.take s.length ++ [⟨n, t⟩] ++ s.drop s.length) → Gr w w' → Q (.returned v) w' from fun v w' h1 h2 => HQ.out s.length v w' hk hpre.out (fun h => by omega) h1 h2)
      have hcl : s.length ≤ c := HS.out.1
      go_upto_region 7 with (first
        | (refine wpList_append_bd rfl _ _ rfl rfl (w.heap.size + 1) _ (s.take s.length) ⟨n, t⟩ wr.heap.size 1 (by rfl) (by rfl) (Hrow.out.gr (by go_grown)) (by simp; omega) htl (BlkT.new wr _ _) ?_
           intro v' w4 h2 h3 h4)
        | fail)
      have g4 : Below (w.heap.size + 1) wr w4 := Below.trans (Below.mono (show Gr wr _ by go_grown) hsz) (grownBy_below h3 (by simp; omega) fun b hb => Hrow.out.ge hb)
      have gw4 : Gr w w4 := Below.trans gr (Below.mono g4 (Nat.le_succ _))
      have hany : ∀ x : Option Addr × Nat, ∃ r : Value × World, x.2 ≤ 9223372036854775807 → (Builtin.append_ #[44, 44] 44 #[v', .slice x.1 0 x.2]).run Try.prog w4 = .ok r.1 r.2 ∧ Q (.returned r.1) r.2 := fun ⟨p', c'⟩ => by
        by_cases hc' : c' ≤ 9223372036854775807
        · obtain ⟨v5, w5, hr5, hb5, hg5, ho5⟩ := append_bds w4 (w.heap.size + 1) v' (s.take s.length ++ [⟨n, t⟩]) p' c' [] ⟨Nat.zero_le _, ⟨by simp, hc'⟩, .inl rfl, fun y hy => nomatch hy⟩ h2 (Nat.le_trans hsz g4.size) (by simp; omega)
          exact ⟨(v5, w5), fun _ => ⟨hr5, Hend.out _ _ (by rw [List.drop_length]; exact hb5) (Below.trans gw4 (Below.mono (grownBy_below hg5 (Nat.le_trans hsz g4.size) fun b hb => h2.ge hb) (Nat.le_succ _)))⟩⟩
        · exact ⟨(v', w4), fun h => absurd h hc'⟩
      obtain ⟨F, hF⟩ := Classical.skolem.1 hany
      have HF := Lib.hid (show ∀ p' c', c' ≤ 9223372036854775807 → (Builtin.append_ #[44, 44] 44 #[v', .slice p' 0 c']).run Try.prog w4 = .ok (F (p', c')).1 (F (p', c')).2 ∧ Q (.returned (F (p', c')).1) (F (p', c')).2 from fun p' c' => hF (p', c'))
      have hcm := HS.out.2.1.2
      simp only at hcm
      clear h2 h3 h4 x0 x1 x2 x3 hany hF
      cases p with
      | none =>
        go_wp2_with (first
          | (refine wpList_append_run _ rfl _ _ _ _ rfl _ _ (by rfl) (by rfl) _ _ (HF.out _ _ (by omega)).1 ?_)
          | fail)
        exact (HF.out _ _ (by omega)).2
      | some a =>
        by_cases hc : c = s.length
        · have hc0 : (c - s.length = 0) := by omega
          go_wp2_with (first
            | (refine wpList_append_run _ rfl _ _ _ _ rfl _ _ (by rfl) (by rfl) _ _ (HF.out _ _ (by omega)).1 ?_)
            | fail)
          exact (HF.out _ _ (by omega)).2
        · have hc0 : ¬ (c - s.length = 0) := by omega
          go_wp2_with (first
            | (refine wpList_append_run _ rfl _ _ _ _ rfl _ _ (by rfl) (by rfl) _ _ (HF.out _ _ (by omega)).1 ?_)
            | fail)
          exact (HF.out _ _ (by omega)).2
end Go.Proofs.Ytcblmkhhhibddaa

namespace Go.Proofs.Ytcblmkhhhibddaa
open Go.RowKit Go.Maps Go.Lib

mutual
/-- The pattern is laid on the term: each variable gets what stands where it comes first. -/
def Tm.shp : Tm → Tm → List Bd → Bool × List Bd
  | .mk k n s _ _ l, t, f => if k = 1 then (true, if hasV f n then f else placeL f ⟨n, t⟩) else if k = t.k ∧ s.toList = t.s.toList ∧ l.length = t.l.length then Tm.shpL l t.l f else (false, f)
def Tm.shpL : List Tm → List Tm → List Bd → Bool × List Bd
  | [], _, f => (true, f)
  | _ :: _, [], f => (true, f)
  | x :: xs, y :: ys, f => if (Tm.shp x y f).1 then Tm.shpL xs ys (Tm.shp x y f).2 else (false, (Tm.shp x y f).2)
end
theorem shp_var {a b : Tm} (h : a.k = 1) (f : List Bd) : Tm.shp a b f = (true, if hasV f a.n then f else placeL f ⟨a.n, b⟩) := by
  obtain ⟨k, n, s, p, c, l⟩ := a
  replace h : k = 1 := h
  rw [Tm.shp, if_pos h]
  rfl
theorem shp_other {a b : Tm} (h : a.k ≠ 1) (hh : a.k = b.k ∧ a.s.toList = b.s.toList ∧ a.l.length = b.l.length) (f : List Bd) : Tm.shp a b f = Tm.shpL a.l b.l f := by
  obtain ⟨k, n, s, p, c, l⟩ := a
  replace h : k ≠ 1 := h
  rw [Tm.shp, if_neg h]
  exact if_pos hh
theorem shp_no {a b : Tm} (h : a.k ≠ 1) (hh : ¬ (a.k = b.k ∧ a.s.toList = b.s.toList ∧ a.l.length = b.l.length)) (f : List Bd) : Tm.shp a b f = (false, f) := by
  obtain ⟨k, n, s, p, c, l⟩ := a
  replace h : k ≠ 1 := h
  rw [Tm.shp, if_neg h]
  exact if_neg hh
theorem shpL_step {la lb : List Tm} {k : Nat} (h : k < la.length) (h' : k < lb.length) (f : List Bd) : Tm.shpL (la.drop k) (lb.drop k) f = if (Tm.shp la[k] lb[k] f).1 then Tm.shpL (la.drop (k + 1)) (lb.drop (k + 1)) (Tm.shp la[k] lb[k] f).2 else (false, (Tm.shp la[k] lb[k] f).2) := by
  rw [List.drop_eq_getElem_cons h, List.drop_eq_getElem_cons h', Tm.shpL]
mutual
theorem shp_len : ∀ (a b : Tm) (f : List Bd), (Tm.shp a b f).2.length ≤ f.length + T.sz a.erase
  | .mk k n s p c l, t, f => by
    rw [Tm.shp, Tm.erase, T.sz]
    split
    · simp only
      split
      · omega
      · rw [placeL_length]; omega
    · split
      · have := shpL_len l t.l f
        omega
      · simp only; omega
theorem shpL_len : ∀ (a b : List Tm) (f : List Bd), (Tm.shpL a b f).2.length ≤ f.length + T.szL (Tm.eraseL a)
  | [], _, f => by rw [Tm.shpL]; simp only; omega
  | _ :: _, [], f => by rw [Tm.shpL]; simp only; omega
  | x :: xs, y :: ys, f => by
    rw [Tm.shpL, Tm.eraseL, T.szL]
    have h1 := shp_len x y f
    split
    · have h2 := shpL_len xs ys (Tm.shp x y f).2
      omega
    · simp only; omega
end

theorem Bds.In.kp {S C : Nat → Prop} {w w' : World} {x : Bds} (h : x.In w) (ho : ∀ y ∈ x.l, y.t.On S) (hS : ∀ b, S b → ¬ C b) (hp : ∀ b o, x.l ≠ [] → x.p = some ⟨b, o, none⟩ → ¬ C b) (k : Kp C w w') : x.In w' := by
  obtain ⟨h1, h2, h3, h4⟩ := h
  refine ⟨h1, h2, ?_, fun y hy => ⟨kp_in (h4 y hy).1 (ho y hy) hS k, (h4 y hy).2⟩⟩
  by_cases hl : x.l = []
  · exact .inl hl
  · rcases h3 with h3 | ⟨b, o, e, hr⟩
    · exact .inl h3
    · have hb := hp b o hl e
      refine .inr ⟨b, o, e, fun i y hy => ?_⟩
      obtain ⟨c0, c1, c2, c3, c4⟩ := hr i y hy
      exact ⟨k.cell c0 hb, k.cell c1 hb, k.cell c2 hb, k.cell c3 hb, k.cell c4 hb⟩
/-- The binds so far: their header lies in block P; what they say lies on S. -/
structure SSt (S : Nat → Prop) (P : Nat) (l : List Bd) (w : World) : Prop where
  st : ∃ p c, BlkT w P 44 #[.slice p l.length c] ∧ (Bds.mk p c l).In w
  on : ∀ y ∈ l, y.t.On S
  low : ∀ b, S b → b < P
theorem SSt.lt {S : Nat → Prop} {P : Nat} {l : List Bd} {w : World} (h : SSt S P l w) : P < w.heap.size := by
  obtain ⟨p, c, h1, _⟩ := h.st
  exact h1.lt
theorem SSt.gr {S : Nat → Prop} {P : Nat} {l : List Bd} {w w' : World} (h : SSt S P l w) (g : Gr w w') : SSt S P l w' := by
  obtain ⟨p, c, h1, h2⟩ := h.st
  exact ⟨⟨p, c, h1.gr g, h2.mono g⟩, h.on, h.low⟩
/-- A row of binds does not lie in a block of one cell. -/
theorem row_apart {w : World} {P b o : Nat} {ty : TypeId} {v : Value} {l : List Bd} (hP : BlkT w P ty #[v]) (hr : Bd.row w b o l) (hl : l ≠ []) : b ≠ P := by
  rintro rfl
  cases l with
  | nil => exact hl rfl
  | cons x xs =>
    have h1 := (hr 0 x rfl).2.1
    rw [cell_of_row w b _ _ _ _ hP] at h1
    rw [Array.getElem?_eq_none (by simp)] at h1
    cases h1
/-- New binds are stored. -/
theorem SSt.put {S : Nat → Prop} {P : Nat} {l l' : List Bd} {w w' : World} {p : Option Addr} {c : Nat} (h : SSt S P l w) (g : Gr w w') (hin : (Bds.mk p c l').In w') (ho : ∀ y ∈ l', y.t.On S) : SSt S P l' (w'.setCell ⟨P, 0, none⟩ (.slice p l'.length c)) := by
  obtain ⟨p0, c0, h1, h2⟩ := h.st
  have h3 := h1.gr g
  have k : Kp (· = P) w' (w'.setCell ⟨P, 0, none⟩ (.slice p l'.length c)) := Kp.set rfl
  refine ⟨⟨p, c, h3.set 0 _, hin.kp ho (fun b hb e => ?_) (fun b o hl e hb => ?_) k⟩, ho, h.low⟩
  · have := h.low b hb
    omega
  · obtain ⟨_, _, hr, _⟩ := hin
    rcases hr with hr | ⟨b', o', e', hr⟩
    · exact hl hr
    · rw [e] at e'
      cases e'
      exact row_apart h3 hr hl hb
/-- shapes' answer. -/
def RetShp (S : Nat → Prop) (P : Nat) (r : Bool × List Bd) (w : World) (e : Ending) (w' : World) : Prop := e = .returned (.bool r.1) ∧ SSt S P r.2 w' ∧ Kp (· = P) w w'
def shpOf (a : Tm) : Prop := ∀ (S : Nat → Prop) (P : Nat) (l : List Bd) (b : Tm) (w : World), a.In w → b.In w → a.On S → b.On S → SSt S P l w → l.length + T.sz a.erase ≤ 1048576 →
  Calls Try.prog 159 #[a.val, b.val, .pointer (some ⟨P, 0, none⟩)] w (RetShp S P (Tm.shp a b l) w)
end Go.Proofs.Ytcblmkhhhibddaa
