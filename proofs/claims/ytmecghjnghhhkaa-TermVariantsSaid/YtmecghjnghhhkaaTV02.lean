/-
  hornkeep's marks and lists with spare room: markTerm, roomy.
  hornkeep's own: a term in new memory, with spare room in which marks stand.
  Facts for the bases that the laws make (no program here).
-/
import Derived.Test.YtmecghjnghhhkaaUO04
import Derived.Test.YtmecghjnghhhkaaUO05
import Derived.Test.YtmecghjnghhhkaaUO08
import Derived.Lib.AppendZeros
import Derived.OwnWalk
import Derived.Deep.LoopGhost
import Derived.Deep.CutRange
import Derived.Deep.CutBlock
import Derived.Deep.Light
import Derived.Test.YtmecghjnghhhkaaTV01
import Derived.Test.YtmecghjnghhhkaaUO10
import Derived.Test.YtmecghjnghhhkaaUO06
namespace Go.Proofs.Ytmecghjnghhhkaa
open Go.RowKit Go.Lib

def spoiltB : ByteArray := ⟨#[115, 112, 111, 105, 108, 116]⟩
/-- What is written over. -/
def markTm : Tm := .mk 9 (-77) spoiltB none 0 []
def marks : List Value := markTm.cells ++ markTm.cells ++ markTm.cells
theorem markTm_val : markTm.val = .agg #[.int .i64 9, .int .i64 (-77), .string spoiltB, .slice none 0 0] := rfl

theorem mark_calls (w : World) : Calls Try.prog 89 #[] w (Ret markTm.val w) := by
  have hR : Hid (∀ w', Gr w w' → Ret markTm.val w (.returned (.agg #[.int .i64 9, .int .i64 (-77), .string ⟨#[115, 112, 111, 105, 108, 116]⟩, .slice none 0 0])) w') := fun w' hg => ⟨rfl, hg⟩
  generalize hQ : Ret markTm.val w = Q at hR ⊢
  clear hQ
  go_enter Try.func89, Try.ntmps89
  go_wp2_with fail
  exact bodyPost_ret (by simp (maxDischargeDepth := 9) [results, Try.results89, go_sem]) rfl (hR.out _ (by go_grown))

/-- The cells of a row, one behind the other. -/
theorem flat_cells {w : World} {b o : Nat} {l : List Tm} (h : Tm.row w b o l) : ∀ j u, (l.flatMap Tm.cells)[j]? = some u → w.cell? ⟨b, o + j, none⟩ = some u := by
  intro j u hu
  have hj : j < l.length * 4 := by rw [← cells_len l]; exact (List.getElem?_eq_some_iff.1 hu).1
  have hi : j / 4 < l.length := by omega
  have hx : l[j / 4]? = some l[j / 4] := List.getElem?_eq_getElem hi
  have hr : j % 4 < 4 := Nat.mod_lt _ (by decide)
  have hj' : j / 4 * 4 + j % 4 = j := by omega
  have hc := cells_at hx (j % 4) hr
  rw [hj', hu] at hc
  obtain ⟨h0, h1, h2, h3⟩ := h (j / 4) _ hx
  generalize l[j / 4] = x at *
  rw [← hj']
  match hm : j % 4, hr with
  | 0, _ => rw [hm] at hc; cases hc; simpa using h0
  | 1, _ => rw [hm] at hc; cases hc; simpa [Nat.add_assoc] using h1
  | 2, _ => rw [hm] at hc; cases hc; simpa [Nat.add_assoc] using h2
  | 3, _ => rw [hm] at hc; cases hc; simpa [Nat.add_assoc] using h3

theorem cells_one (x : Tm) : ∀ u ∈ x.cells, u.oneCell' = true := by
  intro u hu
  simp only [Tm.cells, List.mem_cons, List.mem_nil_iff, or_false] at hu
  rcases hu with rfl | rfl | rfl | rfl <;> rfl
theorem flat_one (l : List Tm) : ∀ u ∈ l.flatMap Tm.cells, u.oneCell' = true := by
  intro u hu
  obtain ⟨x, _, hx⟩ := List.mem_flatMap.1 hu
  exact cells_one x u hx
theorem marks_one : ∀ u ∈ marks, u.oneCell' = true := by
  intro u hu
  simp only [marks, List.mem_append] at hu
  rcases hu with (h | h) | h <;> exact cells_one _ u h
theorem marks_len : marks.length = 12 := rfl

/-- append where there is room, into a row of the call's own. -/
theorem append_into {P : Program} (w : World) (t ty e : TypeId) (i : TypeInfo) (ht : P.underlying t = some (.slice e)) (hi : P.info? e = some i) (hsz : i.size = 4) (g n cap : Nat) (cur : Array Value) (hg : w.heap[g]? = some (.cells cur e)) (hc : cur.size = cap * 4)
    (a : Addr) (m c : Nat) (news : List Value) (hl : news.length = m * 4) (hnews : ∀ j u, news[j]? = some u → w.cell? (a.add j) = some u) (h1 : ∀ u ∈ news, u.oneCell' = true) (hroom : n + m ≤ cap) :
    ∃ w', (Builtin.append_ #[t, t] ty #[.slice (some ⟨g, 0, none⟩) n cap, .slice (some a) m c]).run P w = .ok (.slice (some ⟨g, 0, none⟩) (n + m) cap) w' ∧
      w'.heap[g]? = some (.cells (cur.toList.take (n * 4) ++ news ++ cur.toList.drop (n * 4 + news.length)).toArray e) ∧ Kp (fun b => b = g) w w' := by
  have hr := run_append_room (P := P) w t ty e i ht hi g n cap cur hg a m c news (by rw [hsz]; exact hl) hnews h1 hroom (by rw [hsz, hl, hc]; omega)
  rw [hsz] at hr
  exact ⟨_, hr, setRow_heap w g cur _ e _ hg, ⟨rfl, rfl, rfl, by simp, fun k _ hk => setRow_other w g k _ hk⟩⟩

/-- A list with three marks behind it is handed back. -/
def RetRoomy (l : List Tm) (w : World) (e : Ending) (w' : World) : Prop :=
  ∃ g, e = .returned (.slice (some ⟨g, 0, none⟩) l.length (l.length + 3)) ∧ w.heap.size ≤ g ∧ w'.heap[g]? = some (.cells (l.flatMap Tm.cells ++ marks).toArray 27) ∧ Gr w w'

set_option maxHeartbeats 2000000 in
set_option maxRecDepth 100000 in
theorem roomy_calls (p : Option Addr) (c : Nat) (l : List Tm) (w : World) (h : Tm.Sl w p c l) (hl : 0 < l.length) : Calls Try.prog 88 #[.slice p l.length c, markTm.val] w (RetRoomy l w) := by
  have hR : Hid (∀ g w', w.heap.size ≤ g → w'.heap[g]? = some (.cells (l.flatMap Tm.cells ++ marks).toArray 27) → Gr w w' → RetRoomy l w (.returned (.slice (some ⟨g, 0, none⟩) l.length (l.length + 3))) w') := fun g w' h1 h2 h3 => ⟨g, rfl, h1, h2, h3⟩
  generalize hQ : RetRoomy l w = Q at hR ⊢
  clear hQ
  obtain ⟨b, o, rfl⟩ := h.ptr hl
  have hrow : Tm.row w b o l := by
    obtain ⟨_, _, h3, _⟩ := h
    rcases h3 with rfl | ⟨b', o', hp, hr⟩
    · simp at hl
    · cases hp; exact hr
  have hbl := Tm.row_lt hrow (by rintro rfl; simp at hl)
  have hlen := h.2.1.1
  have HFl := Lib.hid (flat_cells hrow)
  have hcl := cells_len l
  have HOne := Lib.hid (flat_one l)
  clear h hrow
  obtain ⟨i0, hi, hz0, hz1, hz2⟩ := info_parts infoTermM
  have Hi := Lib.hid hi
  clear hi
  rw [markTm_val]
  go_enter Try.func88, Try.ntmps88
  try simp only [List.append_eq, List.cons_append, List.nil_append]
  go_upto_region 1 with fail
  have hN := Blk4.new w (.int .i64 9) (.int .i64 (-77)) (.string spoiltB) (.slice none 0 0)
  have gA : Gr w (w.alloc (.cells #[.int .i64 9, .int .i64 (-77), .string spoiltB, .slice none 0 0] 27)) := by go_grown
  generalize w.alloc (.cells #[.int .i64 9, .int .i64 (-77), .string spoiltB, .slice none 0 0] 27) = w1 at *
  have HM := Lib.hid hN
  clear hN
  have hs1 := gA.size
  have hMl := HM.out.parts.2.2
  go_upto_region 2 with (first
    | (refine wpList_make_own _ rfl _ _ 25 rfl (w.heap.size) 27 i0 _ 4 Try.underlying25 Hi.out hz0 hz1 .i64 .i64 _ (l.length + 3) rfl rfl (by simp) (by rw [hz2]; omega) (by simp only [maxLen]; omega) (by omega) ?_
       intro w2 hown hgrow
       have gB := grownBy_below hgrow (Nat.le_refl _) fun k hk => by cases hk)
    | fail)
  obtain ⟨cur, hg0, hcur⟩ : ∃ cur : Array Value, w2.heap[w1.heap.size]? = some (.cells cur 27) ∧ cur.size = (l.length + 3) * 4 := by
    rcases hown.2 with ⟨h0, _⟩ | ⟨g, cap, cur, h0, _, h1, _, _, h2, _⟩
    · cases h0
    · cases h0; exact ⟨cur, h1, h2⟩
  have gAB : Gr w w2 := gA.trans gB
  have hgl : w1.heap.size < w2.heap.size := (Array.getElem?_eq_some_iff.1 hg0).1
  have HM2 := Lib.hid (HM.out.gr gB)
  generalize hge : w1.heap.size = g at *
  obtain ⟨w3, hr3, hg3, hk3⟩ := append_into (P := Try.prog) w2 25 25 27 i0 Try.underlying25 Hi.out hz1 g 0 (l.length + 3) cur hg0 hcur ⟨b, o, none⟩ l.length c (l.flatMap Tm.cells) hcl
    (fun j u hu => by rw [Go.WideShapes.add_plain]; exact Gr.at gAB (HFl.out j u hu)) HOne.out (by omega)
  have Hr3 := Lib.hid hr3
  rw [Nat.zero_add] at Hr3
  have HM3 := Lib.hid (HM2.out.kp hk3 (by omega))
  clear hown hgrow hr3 HM HM2
  go_upto_region 3 with (first
    | (refine wpList_append_run w2 rfl _ _ _ _ rfl _ _ (by rfl) (by rfl) _ _ Hr3.out ?_)
    | fail)
  obtain ⟨⟨m0, m1, m2, m3⟩, _, _⟩ := HM3.out.parts
  have hs3 := hk3.size
  have hg4 : (w3.alloc (.cells marks.toArray 27)).heap[g]? = some (.cells (cur.toList.take (0 * 4) ++ l.flatMap Tm.cells ++ cur.toList.drop (0 * 4 + (l.flatMap Tm.cells).length)).toArray 27) := (heap_alloc_old w3 _ (by omega)).trans hg3
  have hmk : (w3.alloc (.cells marks.toArray 27)).heap[w3.heap.size]? = some (.cells marks.toArray 27) := heap_alloc_new w3 _
  obtain ⟨w5, hr5, hg5, hk5⟩ := append_into (P := Try.prog) (w3.alloc (.cells marks.toArray 27)) 25 25 27 i0 Try.underlying25 Hi.out hz1 g l.length (l.length + 3) _ hg4
    (by simp only [List.size_toArray, List.length_append, List.length_take, List.length_drop, hcl, Array.length_toList, hcur]; omega) ⟨w3.heap.size, 0, none⟩ 3 3 marks rfl
    (fun j u hu => by rw [Go.WideShapes.add_plain, Nat.zero_add, cell_of_row _ _ j _ _ _ hmk]; simpa using hu) marks_one (by omega)
  have Hr5 := Lib.hid hr5
  have hfin : Hid (w5.heap[g]? = some (.cells (l.flatMap Tm.cells ++ marks).toArray 27)) := by
    show _ = _
    rw [hg5]
    have e1 : (cur.toList.take (0 * 4) ++ l.flatMap Tm.cells ++ cur.toList.drop (0 * 4 + (l.flatMap Tm.cells).length)).take (l.length * 4) = l.flatMap Tm.cells := by
      rw [Nat.zero_mul, List.take_zero, List.nil_append, ← hcl, List.take_left']
      rfl
    have e2 : (cur.toList.take (0 * 4) ++ l.flatMap Tm.cells ++ cur.toList.drop (0 * 4 + (l.flatMap Tm.cells).length)).drop (l.length * 4 + marks.length) = [] := by
      apply List.drop_eq_nil_of_le
      simp only [List.length_append, List.length_take, List.length_drop, hcl, Array.length_toList, hcur, marks_len]
      omega
    rw [e1, e2, List.append_nil]
  have hgw : Gr w w5 := by
    have k1 : Gr w w3 := Below.trans gAB (hk3.below (B := w.heap.size) (fun x hx => by omega) gAB.size)
    have k2 : Gr w (w3.alloc (.cells marks.toArray 27)) := k1.trans (by go_grown)
    exact Below.trans k2 (hk5.below (B := w.heap.size) (fun x hx => by omega) k2.size)
  clear hg0 hcur hr5 hg5 hk5 hk3 hg3 hg4 hmk
  go_wp2_with (first
    | (refine wpList_append_run _ rfl _ _ _ _ rfl _ _ (by rfl) (by rfl) _ _ Hr5.out ?_)
    | fail)
  exact hR.out g _ (by omega) hfin.out hgw
end Go.Proofs.Ytmecghjnghhhkaa

namespace Go.Proofs.Ytmecghjnghhhkaa
open Go.RowKit Go.Lib

mutual
/-- Behind all Args of the term there is room for three, in which marks stand. -/
def Tm.Roomy (w : World) : Tm → Prop
  | .mk _ _ _ p c l => (l = [] ∨ ∃ b, p = some ⟨b, 0, none⟩ ∧ c = l.length + 3 ∧ ∀ j, j < 12 → w.cell? ⟨b, l.length * 4 + j, none⟩ = marks[j]?) ∧ Tm.RoomyL w l
def Tm.RoomyL (w : World) : List Tm → Prop
  | [] => True
  | x :: xs => Tm.Roomy w x ∧ Tm.RoomyL w xs
end

mutual
theorem Tm.Roomy.same {w w' : World} {S : Nat → Prop} (hS : ∀ b, S b → ∀ o, w'.cell? ⟨b, o, none⟩ = w.cell? ⟨b, o, none⟩) : ∀ {t : Tm}, t.On S → t.Roomy w → t.Roomy w'
  | .mk k n s p c l, ho, h => by
    rw [Tm.On] at ho
    rw [Tm.Roomy] at h ⊢
    refine ⟨?_, Tm.RoomyL.same hS ho.2 h.2⟩
    rcases ho.1 with h1 | ⟨b, o, hp, hb⟩
    · exact .inl h1
    · refine h.1.imp id ?_
      rintro ⟨b', hp', hc, hm⟩
      rw [hp] at hp'
      cases hp'
      exact ⟨b, hp, hc, fun j hj => (hS b hb _).trans (hm j hj)⟩
theorem Tm.RoomyL.same {w w' : World} {S : Nat → Prop} (hS : ∀ b, S b → ∀ o, w'.cell? ⟨b, o, none⟩ = w.cell? ⟨b, o, none⟩) : ∀ {l : List Tm}, Tm.OnL S l → Tm.RoomyL w l → Tm.RoomyL w' l
  | [], _, _ => by rw [Tm.RoomyL]; trivial
  | x :: xs, ho, h => by
    rw [Tm.OnL] at ho
    rw [Tm.RoomyL] at h ⊢
    exact ⟨Tm.Roomy.same hS ho.1 h.1, Tm.RoomyL.same hS ho.2 h.2⟩
end
theorem Tm.RoomyL_append {w : World} : ∀ {l l' : List Tm}, Tm.RoomyL w l → Tm.RoomyL w l' → Tm.RoomyL w (l ++ l')
  | [], _, _, h => h
  | x :: xs, _, h, h' => by
    rw [Tm.RoomyL] at h
    rw [List.cons_append, Tm.RoomyL]
    exact ⟨h.1, Tm.RoomyL_append h.2 h'⟩
theorem Tm.RoomyL_mem {w : World} : ∀ {l : List Tm}, Tm.RoomyL w l → ∀ x ∈ l, Tm.Roomy w x
  | _ :: _, h, x, hx => by
    rw [Tm.RoomyL] at h
    rcases List.mem_cons.1 hx with rfl | hx
    · exact h.1
    · exact Tm.RoomyL_mem h.2 x hx
theorem Tm.Roomy.gr {w w' : World} {t : Tm} (h : t.Roomy w) (hi : t.In w) (hg : Gr w w') : t.Roomy w' :=
  Tm.Roomy.same (S := (· < w.heap.size)) (fun b hb _ => World.cell?_of_block (hg.block b hb)) hi.on h
theorem Tm.In.onL {w : World} : ∀ {l : List Tm}, Tm.InL w l → Tm.OnL (· < w.heap.size) l
  | [], _ => by rw [Tm.OnL]; trivial
  | x :: xs, h => by
    rw [Tm.InL] at h
    rw [Tm.OnL]
    exact ⟨h.1.on, Tm.In.onL h.2⟩

/-- A term of one's own is handed back. -/
def RetOwn (u : T) (w : World) (e : Ending) (w' : World) : Prop := ∃ x : Tm, e = .returned x.val ∧ x.In w' ∧ x.erase = u ∧ x.On (w.heap.size ≤ ·) ∧ x.Roomy w' ∧ Gr w w'
def ownOf (t : Tm) : Prop := ∀ w : World, t.In w → Calls Try.prog 25 #[t.val] w (RetOwn t.erase w)

theorem eraseL_take (l : List Tm) (k : Nat) (hk : k < l.length) : Tm.eraseL (l.take (k + 1)) = Tm.eraseL (l.take k) ++ [l[k].erase] := by
  rw [List.take_succ_eq_append_getElem hk, eraseL_append, Tm.eraseL, Tm.eraseL]

set_option maxHeartbeats 4000000 in
set_option maxRecDepth 100000 in
theorem own_step (k0 n : Int) (s : ByteArray) (p' : Option Addr) (c' : Nat) (l : List Tm) (ih : ∀ x ∈ l, ownOf x) (w : World) (hin : (Tm.mk k0 n s p' c' l).In w) :
    Calls Try.prog 25 #[(Tm.mk k0 n s p' c' l).val] w (RetOwn (Tm.mk k0 n s p' c' l).erase w) := by
  have HSl := Lib.hid hin.sl
  rw [Tm.In] at hin
  have hlc : l.length ≤ c' := hin.2.2.2.1
  have hc : c' ≤ 9223372036854775807 := hin.2.2.2.2.1.2
  have hl56 : l.length * 56 ≤ 140737488351232 := hin.2.2.2.2.1.1
  have Hk := Lib.hid hin.1
  have Hn := Lib.hid hin.2.1
  have Hs := Lib.hid hin.2.2.1
  have Hih := Lib.hid ih
  clear hin ih
  have hR : Hid (∀ (x : Tm) (w' : World), x.In w' → x.erase = (Tm.mk k0 n s p' c' l).erase → x.On (w.heap.size ≤ ·) → x.Roomy w' → Gr w w' → RetOwn (Tm.mk k0 n s p' c' l).erase w (.returned x.val) w') := fun x w' h1 h2 h3 h4 h5 => ⟨x, rfl, h1, h2, h3, h4, h5⟩
  generalize hQ : RetOwn (Tm.mk k0 n s p' c' l).erase w = Q at hR ⊢
  clear hQ
  simp only [tm_val]
  go_enter Try.func25, Try.ntmps25
  try simp only [List.append_eq, List.cons_append, List.nil_append]
  go_upto_region 1 with fail
  obtain ⟨HB, HR, gA⟩ := two_blocks w (.int .i64 k0) (.int .i64 n) (.string s) (.slice p' l.length c') (.int .i64 0) (.int .i64 0) (.string ⟨#[]⟩) (.slice none 0 0)
  have hszA : ((w.alloc (.cells #[.int .i64 k0, .int .i64 n, .string s, .slice p' l.length c'] 27)).alloc (.cells #[.int .i64 0, .int .i64 0, .string ⟨#[]⟩, .slice none 0 0] 27)).heap.size = w.heap.size + 2 := by simp
  generalize (w.alloc (.cells #[.int .i64 k0, .int .i64 n, .string s, .slice p' l.length c'] 27)).alloc (.cells #[.int .i64 0, .int .i64 0, .string ⟨#[]⟩, .slice none 0 0] 27) = wA at *
  obtain ⟨⟨b0, b1, b2, b3⟩, _, _⟩ := HB.out.parts
  go_wp2_with fail
  clear b0 b1 b2 b3
  go_loopg [3, 8] l.length (fun m u i wr => ∃ k : Nat, k ≤ l.length ∧ m = l.length - k ∧ i = .int .i64 k ∧
    Hid (∃ lm : List Tm, lm.length = k ∧ Tm.eraseL lm = Tm.eraseL (l.take k) ∧ Built wr (w.heap.size + 2) (fun _ => False) u lm ∧ Tm.RoomyL wr lm) ∧
    Hid (Blk4 wr w.heap.size (.int .i64 k0) (.int .i64 n) (.string s) (.slice p' l.length c') ∧ Blk4 wr (w.heap.size + 1) (.int .i64 0) (.int .i64 0) (.string ⟨#[]⟩) (.slice none 0 0)) ∧ Gr w wr ∧ w.heap.size + 2 ≤ wr.heap.size)
  case atStart => exact ⟨0, Nat.zero_le _, rfl, rfl, ⟨[], rfl, by simp [Tm.eraseL], Built.nil _ _ _, by rw [Tm.RoomyL]; trivial⟩, ⟨HB.out, HR.out⟩, gA, by omega⟩
  case round =>
    obtain ⟨k, hk, rfl, rfl, hlm, HBR, gr, hws⟩ := hrel
    obtain ⟨⟨b0, b1, b2, b3⟩, ⟨e0, e1, e2, e3⟩, _⟩ := HBR.out.1.parts
    by_cases hkl : k < l.length
    · obtain ⟨b, o, rfl⟩ := HSl.out.ptr (by omega)
      obtain ⟨⟨c0, c1, c2, c3⟩, hxi, _⟩ := (HSl.out.mono gr).elem k hkl
      have hmem : l[k] ∈ l := List.getElem_mem hkl
      have Hx := Lib.hid hxi
      have Hix := Lib.hid (Hih.out _ hmem)
      have Htk := Lib.hid (eraseL_take l k hkl)
      clear hmem hxi
      generalize l[k] = x at *
      have Hxv := Lib.hid (show x.val = .agg #[.int .i64 x.k, .int .i64 x.n, .string x.s, .slice x.p x.l.length x.c] from rfl)
      go_wp2_with fail
      clear b0 b1 b2 b3 e0 e1 e2 e3
      rw [← Hxv.out]
      refine (Hix.out wr Hx.out).mono ?_
      rintro e w2 ⟨xm, rfl, hin, he, hon, hro, hb2⟩
      obtain ⟨lm, hl0, he0, hF, hRo⟩ := hlm.out
      have hRo2 : Tm.RoomyL w2 lm := Tm.RoomyL.same (S := (· < wr.heap.size)) (fun b hb o => World.cell?_of_block (hb2.block b hb)) (hF.2.2.mono fun b hb => hb.2.1) hRo
      have HOn := Lib.hid hF.2.2
      have HF2 := Lib.hid (hF.gr hb2)
      have Hvf := Lib.hid hF.1.lt
      have hs2 := hb2.size
      have Hl0 := Lib.hid hl0
      have He0 := Lib.hid he0
      have Hin := Lib.hid hin
      have Hon := Lib.hid hon
      have He := Lib.hid he
      have Hro := Lib.hid hro
      have HRo2 := Lib.hid hRo2
      have HB2 := Lib.hid (And.intro (HBR.out.1.gr hb2) (HBR.out.2.gr hb2))
      have g2 : Gr w w2 := gr.trans hb2
      clear hF hl0 he0 hin hon he hb2 hlm c0 c1 c2 c3 hro hRo2 hRo
      obtain ⟨k', n', s', p2, c2, l2⟩ := xm
      simp only [Tm.val, Tm.k, Tm.n, Tm.s, Tm.p, Tm.c, Tm.l]
      go_wp2_with
        (at_builtin
         refine wpList_append_term rfl _ _ rfl rfl (w.heap.size + 2) (fun _ => False) _ lm (.mk k' n' s' p2 c2 l2) w2.heap.size 1 rfl rfl (HF2.out.gr (by go_grown)) (by simp; omega) (Tm.In_below (by go_grown) Hin.out) (Hon.out.mono fun b hb => ⟨.inr (by omega), fun e => by have := Hvf.out b e; omega⟩) (by have := Hl0.out; omega) (by show _ = some (Value.int .i64 k'); go_cell) (by show _ = some (Value.int .i64 n'); go_cell) (by show _ = some (Value.string s'); go_cell) (by show _ = some (Value.slice p2 l2.length c2); go_cell) ?_
         intro v' w4 hbt hbel hcl
         have hsame : ∀ b, b < w2.heap.size → ∀ o, (w2.alloc (.cells #[.int .i64 k', .int .i64 n', .string s', .slice p2 l2.length c2] 27)).cell? ⟨b, o, none⟩ = w2.cell? ⟨b, o, none⟩ := fun b hb o => World.cell?_of_block (heap_alloc_old w2 _ hb)
         have hro1 : Tm.RoomyL w4 lm := Tm.RoomyL.same (fun b hb o => (hcl ⟨b, o, none⟩ (by simp only [World.size_alloc]; have := hb.2.1; omega) hb.2.2).trans (hsame b (by have := hb.2.1; omega) o)) HOn.out HRo2.out
         have hro2 : (Tm.mk k' n' s' p2 c2 l2).Roomy w4 := Tm.Roomy.same (fun b hb o => (hcl ⟨b, o, none⟩ (by simp only [World.size_alloc]; have := hb.2; omega) (fun e => by have := Hvf.out b e; have := hb.1; omega)).trans (hsame b hb.2 o)) (Tm.On.and Hon.out Hin.out.on) Hro.out
         have HRo4 := Lib.hid (Tm.RoomyL_append hro1 (by rw [Tm.RoomyL, Tm.RoomyL]; exact ⟨hro2, trivial⟩ : Tm.RoomyL w4 [Tm.mk k' n' s' p2 c2 l2]))
         clear hcl hsame hro1 hro2)
      go_roundg (l.length - (k + 1))
      case measure => omega
      case rel =>
        have hg4 : Below (w.heap.size + 2) w2 w4 := Below.trans (show Below (w.heap.size + 2) w2 _ by go_grown) hbel
        exact ⟨k + 1, by omega, rfl, by go_num, ⟨_, by rw [List.length_append, Hl0.out]; rfl, by rw [eraseL_append, He0.out, Htk.out, ← He.out]; simp [Tm.eraseL], hbt, HRo4.out⟩, ⟨HB2.out.1.below hg4 (by omega), HB2.out.2.below hg4 (by omega)⟩, Below.trans g2 (hg4.mono (by omega)), by have := hg4.size; omega⟩
    · obtain rfl : k = l.length := by omega
      obtain ⟨lm, hl0, he0, hF, hRo⟩ := hlm.out
      rw [List.take_length] at he0
      obtain ⟨pv, cv, rfl, hcv1, hcv2⟩ := hF.form
      have HF := Lib.hid hF
      have Hl0 := Lib.hid hl0
      have He0 := Lib.hid he0
      have HRo := Lib.hid hRo
      have hll : (lm.length : Int) = l.length := by rw [hl0]
      clear hF hl0 he0 hlm hRo
      have Hsl := Lib.hid (HF.out.sl (by have := Hl0.out; omega))
      by_cases h0 : 0 < lm.length
      · go_upto_region 9 with (first
          | (go_at_call 89; refine (mark_calls _).mono ?_; rintro e w5 ⟨rfl, hb⟩; have g5 := gr.trans hb; have HS5 := Lib.hid (Hsl.out.2.1.mono hb); have HRo5 := Lib.hid (Tm.RoomyL.same (S := (· < wr.heap.size)) (fun b hb' o => World.cell?_of_block (hb.block b hb')) (Tm.In.onL Hsl.out.2.1.2.2.2) HRo.out); have HBR5 := Lib.hid (And.intro (HBR.out.1.gr hb) (HBR.out.2.gr hb)); have hs5 := hb.size; clear hb)
          | (go_at_call 88; refine (roomy_calls pv cv lm _ HS5.out h0).mono ?_; rintro e w6 ⟨g, rfl, hgs, hgc, hb⟩; have g6 := g5.trans hb; have HBR6 := Lib.hid (And.intro (HBR5.out.1.gr hb) (HBR5.out.2.gr hb)); have HS6 := Lib.hid (HS5.out.mono hb); have HRo6 := Lib.hid (Tm.RoomyL.same (S := (· < w5.heap.size)) (fun b hb' o => World.cell?_of_block (hb.block b hb')) (Tm.In.onL HS5.out.2.2.2) HRo5.out); have Hgc := Lib.hid hgc; have hs6 := hb.size; clear hb hgc b0 b1 b2 b3 e0 e1 e2 e3)
          | fail)
        obtain ⟨⟨b0, b1, b2, b3⟩, ⟨e0, e1, e2, e3⟩, hb6⟩ := HBR6.out.1.parts
        obtain ⟨⟨y0, y1, y2, y3⟩, ⟨f0, f1, f2, f3⟩, hbs2⟩ := HBR6.out.2.parts
        have hat : ∀ (i : Nat) (y : Tm), lm[i]? = some y → ∀ j, j < 4 → w6.cell? ⟨g, 0 + i * 4 + j, none⟩ = y.cells[j]? := by
          intro i y hy j hj
          have hi : i < lm.length := (List.getElem?_eq_some_iff.1 hy).1
          rw [Nat.zero_add, cell_of_row w6 g _ _ _ _ Hgc.out, List.getElem?_toArray, List.getElem?_append_left (by rw [cells_len]; omega)]
          exact cells_at hy j hj
        have hmk : ∀ j, j < 12 → w6.cell? ⟨g, lm.length * 4 + j, none⟩ = marks[j]? := by
          intro j hj
          rw [cell_of_row w6 g _ _ _ _ Hgc.out, List.getElem?_toArray, List.getElem?_append_right (by rw [cells_len]; omega), cells_len, Nat.add_sub_cancel_left]
        have hxin : (Tm.mk k0 n s (some ⟨g, 0, none⟩) (lm.length + 3) lm).In w6 := by
          rw [Tm.In]
          exact ⟨Hk.out, Hn.out, Hs.out, by omega, ⟨by omega, by omega⟩, .inr ⟨g, 0, rfl, fun i y hy => ⟨hat i y hy 0 (by omega), hat i y hy 1 (by omega), hat i y hy 2 (by omega), hat i y hy 3 (by omega)⟩⟩, HS6.out.2.2.2⟩
        have hxon : (Tm.mk k0 n s (some ⟨g, 0, none⟩) (lm.length + 3) lm).On (w.heap.size + 2 ≤ ·) := by
          rw [Tm.On]
          exact ⟨.inr ⟨g, 0, rfl, by omega⟩, Hsl.out.2.2.2.mono fun b hb => hb.elim (fun h => h.elim) id⟩
        have hxro : (Tm.mk k0 n s (some ⟨g, 0, none⟩) (lm.length + 3) lm).Roomy w6 := by
          rw [Tm.Roomy]
          exact ⟨.inr ⟨g, rfl, rfl, hmk⟩, HRo6.out⟩
        have hxe : (Tm.mk k0 n s (some ⟨g, 0, none⟩) (lm.length + 3) lm).erase = (Tm.mk k0 n s p' c' l).erase := by rw [Tm.erase, Tm.erase, He0.out]
        have hfin : Hid (∀ W, Kp (fun b => b = w.heap.size ∨ b = w.heap.size + 1) w6 W → Q (.returned (Tm.mk k0 n s (some ⟨g, 0, none⟩) (lm.length + 3) lm).val) W) := fun W hK =>
          hR.out _ W (in_after' hxin hxon fun b h1 h2 o => World.cell?_of_block (hK.block b h2 (by omega))) hxe (hxon.mono fun b hb => by omega)
            (Tm.Roomy.same (fun b hb o => World.cell?_of_block (hK.block b hb.2 (by have := hb.1; omega))) (Tm.On.and hxon hxin.on) hxro) (Below.trans g6 (hK.below (B := w.heap.size) (fun b hb => by omega) (by omega)))
        clear hat hmk hxin hxon hxro hxe
        go_wp2_with fail
        refine bodyPost_ret (v := (Tm.mk k0 n s (some ⟨g, 0, none⟩) (lm.length + 3) lm).val) (by simp (maxDischargeDepth := 9) [results, Try.results25, go_sem, Tm.val, Tm.k, Tm.n, Tm.s, Tm.p, Tm.c, Tm.l, y0, y1, y2, y3]) rfl ?_
        exact hfin.out _ ((Kp.set (C := fun b => b = w.heap.size ∨ b = w.heap.size + 1) (.inl rfl)).trans (Kp.set4 (C := fun b => b = w.heap.size ∨ b = w.heap.size + 1) (.inr rfl)))
      · obtain rfl : lm = [] := List.eq_nil_of_length_eq_zero (by omega)
        have hxe : (Tm.mk k0 n s pv cv []).erase = (Tm.mk k0 n s p' c' l).erase := by rw [Tm.erase, Tm.erase, He0.out]
        have hxin : ∀ W, (Tm.mk k0 n s pv cv []).In W := fun W => by
          rw [Tm.In]
          exact ⟨Hk.out, Hn.out, Hs.out, by simp, ⟨by simp, by simpa using hcv2⟩, .inl rfl, by rw [Tm.InL]; trivial⟩
        have hxon : ∀ S, (Tm.mk k0 n s pv cv []).On S := fun S => by rw [Tm.On, Tm.OnL]; exact ⟨.inl rfl, trivial⟩
        have hxro : ∀ W, (Tm.mk k0 n s pv cv []).Roomy W := fun W => by rw [Tm.Roomy, Tm.RoomyL]; exact ⟨.inl rfl, trivial⟩
        have hfin : Hid (∀ W, Kp (fun b => b = w.heap.size ∨ b = w.heap.size + 1) wr W → Q (.returned (Tm.mk k0 n s pv cv []).val) W) := fun W hK =>
          hR.out _ W (hxin _) hxe (hxon _) (hxro _) (Below.trans gr (hK.below (B := w.heap.size) (fun b hb => by omega) (by omega)))
        obtain ⟨⟨y0, y1, y2, y3⟩, ⟨f0, f1, f2, f3⟩, hbs2⟩ := HBR.out.2.parts
        clear hxe hxin hxon hxro
        simp only [List.length_nil] at *
        go_wp2_with fail
        refine bodyPost_ret (v := (Tm.mk k0 n s pv cv []).val) (by simp (maxDischargeDepth := 9) [results, Try.results25, go_sem, Tm.val, Tm.k, Tm.n, Tm.s, Tm.p, Tm.c, Tm.l, y0, y1, y2, y3]) rfl ?_
        exact hfin.out _ ((Kp.set (C := fun b => b = w.heap.size ∨ b = w.heap.size + 1) (.inl rfl)).trans (Kp.set4 (C := fun b => b = w.heap.size ∨ b = w.heap.size + 1) (.inr rfl)))

theorem own_any (N : Nat) : ∀ t : Tm, SizeOf.sizeOf t ≤ N → ownOf t := by
  induction N with
  | zero => intro t h; cases t; simp at h
  | succ N ih =>
    intro t h w hin
    obtain ⟨k, n, s, p, c, l⟩ := t
    exact own_step k n s p c l (fun x hx => ih x (by have := Tm.sizeOf_mem hx k n s p c; omega)) w hin
theorem own_calls {t : Tm} {w : World} (h : t.In w) : Calls Try.prog 25 #[t.val] w (RetOwn t.erase w) := own_any _ t (Nat.le_refl _) w h
end Go.Proofs.Ytmecghjnghhhkaa

namespace Go.Proofs.Ytmecghjnghhhkaa

theorem formed_small {t : T} (h : t.formed = true) : t.s.length ≤ 100 ∧ t.l.length ≤ 50 := by
  obtain ⟨k, n, s, l⟩ := t
  by_cases h1 : k = 1
  · subst h1
    obtain ⟨_, rfl, rfl⟩ := formed_var h
    exact ⟨by simp [T.s], by simp [T.l]⟩
  rcases formed_args h with ⟨rfl, _⟩ | ⟨h4, rfl⟩
  · rw [T.formed] at h
    simp only [show ¬ (4 : Int) = 1 by decide, show ¬ (4 : Int) = 2 by decide, show ¬ (4 : Int) = 3 by decide, if_false, if_true, Bool.and_eq_true, decide_eq_true_eq] at h
    simp only [T.s, T.l]
    omega
  · rw [T.formed] at h
    simp only [T.s, T.l]
    by_cases h2 : k = 2
    · subst h2
      simp at h
      simp [h]
    · by_cases h3 : k = 3
      · subst h3
        simp at h
        simp [h]
      · simp [h1, h2, h3, h4] at h

theorem res_neck : reserved sNeck 2 = true := by decide
theorem same_refl (x : T) : T.same x x = true := (same_iff x x).2 rfl

theorem make_p : T.make reserved (atomT [112]) = some (atomT [112], atomT sTrue) := by
  have hp : (atomT [112]).parts = (atomT [112], atomT sTrue) := by rw [T.parts, if_neg (by decide)]
  rw [T.make, hp]
  simp only
  rw [body_true]
  simp only
  rw [if_pos (by decide)]
  rw [atomT, atomT, map_atom _ (by decide) (by decide), map_atom _ (by decide) (by decide)]

theorem eq_of_toList {a b : ByteArray} (h : a.toList = b.toList) : a = b := by
  rw [Go.ByteArray.toList_eq, Go.ByteArray.toList_eq] at h
  cases a
  cases b
  congr 1
  exact Array.toList_inj.1 h

theorem size_toList (a : ByteArray) : a.toList.length = a.size := by rw [Go.ByteArray.toList_eq]; rfl

theorem tm_small {t : Tm} (h : t.erase.formed = true) : t.s.size ≤ 1000 ∧ t.l.length ≤ 1000 := by
  obtain ⟨h1, h2⟩ := formed_small h
  obtain ⟨k, n, s, p, c, l⟩ := t
  rw [Tm.erase] at h1 h2
  simp only [T.s, T.l, Tm.eraseL_length, size_toList] at h1 h2
  exact ⟨by simp only [Tm.s]; omega, by simp only [Tm.l]; omega⟩

/-- A term in memory that is an atom. -/
theorem atom_parts {t : Tm} {s : ByteArray} (h : t.erase = atomT s.toList) : t.s = s ∧ t.l = [] := by
  obtain ⟨k, n, s', p, c, l⟩ := t
  rw [Tm.erase, atomT] at h
  injection h with _ _ h3 h4
  refine ⟨eq_of_toList h3, ?_⟩
  have := Tm.eraseL_length l
  rw [h4] at this
  exact List.eq_nil_of_length_eq_zero this.symm

theorem on_nil {t : Tm} {S : Nat → Prop} (h : t.l = []) : t.On S := by
  obtain ⟨k, n, s, p, c, l⟩ := t
  simp only [Tm.l] at h
  subst h
  rw [Tm.On, Tm.OnL]
  exact ⟨.inl rfl, trivial⟩
end Go.Proofs.Ytmecghjnghhhkaa
