/-
  delete from a map.
  delete from a map; slices.DeleteFunc at []int with base.Remove's function.
  (*base.Base).Remove in general.
-/
import Derived.Test.YtjdoflfdlhpbmaaDoorBP25
import Derived.Test.YtjdoflfdlhpbmaaDoorBP14
import Derived.Shelf.SlicesE.DeleteFunc
import Derived.Test.YtjdoflfdlhpbmaaDoorBP16
namespace Go.Proofs.YtjdoflfdlhpbmaaDoor
open Go.RowKit Go.Maps Go.Lib

set_option maxRecDepth 100000 in
theorem GMap.delete {K : Type} {k : TypeId} {κ : K → Value} {w : World} {b : Nat} {f : K → Option Value} (h : GMap k κ w b f) (KK : Keyed Tryd.prog k) {t e : TypeId} (ty : TypeId) (ht : Tryd.prog.underlying t = some (.map k e)) {x : K} {l : Lit} (hx : keyOf Tryd.prog k (κ x) = some l) (hinj : ∀ y, κ y = κ x → y = x)
    {g : K → Option Value} (hg1 : g x = none) (hg2 : ∀ y, y ≠ x → g y = f y) :
    ∃ w', (Builtin.delete_ #[t, k] ty #[.map (some b), κ x]).run Tryd.prog w = .ok (.tuple #[]) w' ∧ GMap k κ w' b g ∧ w.grownBy w' (some b) := by
  obtain ⟨E, c, hb, hk, hn, hf⟩ := h
  rcases KK.find w hx E.toList hk with ⟨h1, h2⟩ | ⟨j, e0, h1, h2, h3⟩
  · refine ⟨ChangeMaps.setBlock w b (.map E c), ?_, ⟨E, c, ChangeMaps.heap_setBlock_same hb _, hk, hn, fun y v => ?_⟩, setBlock_grown hb _⟩
    · simp [Builtin.delete_, run_underlying ht, MapKept.run_getObj_map hb, KK.check w _ hx, h1, MapKept.run_setObj_map _ hb, Result.andThen, ChangeMaps.setBlock]
    · by_cases hy : y = x
      · subst hy
        rw [hg1]
        exact ⟨fun h => (by cases h), fun ⟨e, he, hek, _⟩ => absurd hek (h2 e he)⟩
      · rw [hg2 y hy]; exact hf y v
  · refine ⟨ChangeMaps.setBlock w b (.map (E.eraseIdxIfInBounds j) c), ?_, ⟨E.eraseIdxIfInBounds j, c, ChangeMaps.heap_setBlock_same hb _, ?_, ?_, fun y v => ?_⟩, setBlock_grown hb _⟩
    · simp [Builtin.delete_, run_underlying ht, MapKept.run_getObj_map hb, KK.check w _ hx, h1, MapKept.run_setObj_map _ hb, Result.andThen, ChangeMaps.setBlock]
    all_goals
      have hj : j < E.toList.length := (List.getElem?_eq_some_iff.1 h2).1
      have hE : (E.eraseIdxIfInBounds j).toList = E.toList.eraseIdx j := by
        rw [Array.eraseIdxIfInBounds, dif_pos (by simpa using hj), Array.toList_eraseIdx]
    · intro e he
      rw [hE] at he
      exact hk e (List.mem_of_mem_eraseIdx he)
    · rw [hE]
      exact List.Nodup.sublist (List.Sublist.map _ (List.eraseIdx_sublist _ _)) hn
    · rw [hE]
      have hkey : ∀ e ∈ E.toList.eraseIdx j, e.key ≠ κ x := by
        intro e he hek
        rw [List.mem_eraseIdx_iff_getElem?] at he
        obtain ⟨i, hi, hie⟩ := he
        have h5 : (E.toList.map (·.key))[i]? = some (κ x) := by rw [List.getElem?_map, hie]; simp [hek]
        have h6 : (E.toList.map (·.key))[j]? = some (κ x) := by rw [List.getElem?_map, h2]; simp [h3]
        obtain ⟨hil, h7⟩ := List.getElem?_eq_some_iff.1 h5
        obtain ⟨hjl, h8⟩ := List.getElem?_eq_some_iff.1 h6
        have hp := List.pairwise_iff_getElem.1 hn
        rcases Nat.lt_trichotomy i j with h | h | h
        · exact hp i j hil hjl h (h7.trans h8.symm)
        · exact hi h
        · exact hp j i hjl hil h (h8.trans h7.symm)
      by_cases hy : y = x
      · subst hy
        rw [hg1]
        exact ⟨fun h => (by cases h), fun ⟨e, he, hek, _⟩ => absurd hek (hkey e he)⟩
      · rw [hg2 y hy, hf y v]
        constructor
        · rintro ⟨e, he, hek, hev⟩
          refine ⟨e, ?_, hek, hev⟩
          rw [List.mem_eraseIdx_iff_getElem?]
          obtain ⟨i, hi, hie⟩ := List.getElem_of_mem he
          refine ⟨i, fun hij => ?_, by rw [List.getElem?_eq_getElem hi, hie]⟩
          subst hij
          rw [List.getElem?_eq_getElem hi, hie] at h2
          cases h2
          exact hy (hinj y (hek ▸ h3))
        · rintro ⟨e, he, hr⟩
          exact ⟨e, List.mem_of_mem_eraseIdx he, hr⟩

end Go.Proofs.YtjdoflfdlhpbmaaDoor

namespace Go.Proofs.YtjdoflfdlhpbmaaDoor
open Go.RowKit Go.Maps Go.Lib Go.Sort

def delRen : Go.Shelf.Ren := ⟨fun | 10 => 68 | 6 => 120 | _ => 0, fun | 3 => 3 | 4 => 4 | 22 => 40 | 23 => 3 | 25 => 120 | _ => 0, fun n => n⟩

set_option maxRecDepth 100000 in
theorem delLays : Go.Proofs.SlLaysH.n10 Tryd.prog delRen := {
  mixed := by kernel_rfl
  f6 := ⟨Tryd.f120.name, by kernel_rfl, Tryd.func120.trans (congrArg some (by kernel_rfl))⟩
  f10 := ⟨Tryd.f68.name, by kernel_rfl, Tryd.func68.trans (congrArg some (by kernel_rfl))⟩
  t0 := Tryd.underlying0
  a0 := Tryd.isAgg0
  z0 := Tryd.sizeOf0
  v0 := Tryd.zeroValue0
  t3 := Tryd.underlying3
  a3 := Tryd.isAgg3
  z3 := Tryd.sizeOf3
  v3 := Tryd.zeroValue3
  t4 := Tryd.underlying4
  a4 := Tryd.isAgg4
  z4 := Tryd.sizeOf4
  v4 := Tryd.zeroValue4
  t22 := Tryd.underlying40
  a22 := Tryd.isAgg40
  z22 := Tryd.sizeOf40
  v22 := Tryd.zeroValue40
  a23 := Tryd.isAgg3
  z23 := Tryd.sizeOf3
  t25 := Tryd.underlying120
  a25 := Tryd.isAgg120
  z25 := Tryd.sizeOf120
  v25 := Tryd.zeroValue120 }

set_option maxRecDepth 100000 in
theorem remove1_calls (b : Nat) (id x : Int) (w : World) (hc : w.cell? ⟨b, 0, none⟩ = some (.int .i64 id)) : FnGives Tryd.prog 69 #[.pointer (some ⟨b, 0, none⟩)] #[.int .i64 x] (.bool (x == id)) w := by
  show Calls Tryd.prog 69 #[.int .i64 x, .pointer (some ⟨b, 0, none⟩)] w _
  go_enter Tryd.func69, Tryd.ntmps69
  go_wp2_with fail
  go_ret
  exact ⟨rfl, 0, rfl⟩

theorem holds_ints {w : World} {g : Nat} {cur : Array Value} {e : TypeId} {L : List Int} (hb : w.heap[g]? = some (.cells cur e (0, 0))) (ht : cur.toList.take L.length = L.map (Value.int .i64)) : Holds (Value.int .i64) w g 0 L.toArray := by
  intro j hj
  have hj' : j < L.length := by simpa using hj
  refine ⟨?_, by simp [World.frozen?, hb]⟩
  have h1 : (cur.toList.take L.length)[j]? = (L.map (Value.int .i64))[j]? := by rw [ht]
  rw [List.getElem?_take_of_lt hj', Array.getElem?_toList] at h1
  rw [Nat.zero_add, cell_of_row w g j _ _ _ hb, h1]
  simp [hj']
theorem put_other {w : World} {g n k : Nat} (d : Array Int) (hne : g ≠ k) : (putRow (Value.int .i64) (Go.Sort.ahead w n) g 0 d).heap[k]? = w.heap[k]? := by
  simp [putRow, mapBlock, Go.Sort.ahead, Array.getElem?_modify, hne]
theorem put_same {w : World} {g n : Nat} {cur : Array Value} {e : TypeId} (d : Array Int) (hb : w.heap[g]? = some (.cells cur e (0, 0))) : (putRow (Value.int .i64) (Go.Sort.ahead w n) g 0 d).heap[g]? = some (.cells (putCells (Value.int .i64) 0 d cur) e (0, 0)) := by
  simp [putRow, mapBlock, Go.Sort.ahead, Array.getElem?_modify, hb, onCells]
theorem take_put (cur : Array Value) (ts us : List Int) (h : ts.length ≤ cur.size) : (putCells (Value.int .i64) 0 (ts ++ us).toArray cur).toList.take ts.length = ts.map (Value.int .i64) := by
  apply List.ext_getElem?
  intro j
  by_cases hj : j < ts.length
  · rw [List.getElem?_take_of_lt hj, Array.getElem?_toList]
    have h1 : (ts ++ us)[j]? = some ts[j] := by rw [List.getElem?_append_left hj, List.getElem?_eq_getElem hj]
    simp [putCells, hj, show j < cur.size by omega, show j < ts.length + us.length by omega]
  · rw [List.getElem?_take_eq_none (by omega), List.getElem?_eq_none (by simp; omega)]

theorem deleteFunc_gen (va : Value) (L : List Int) (b : Nat) (id : Int) (w : World) (hown : w.ownsRow 0 3 1 va L.length (L.map (.int .i64))) (hne : L ≠ []) (hc : w.cell? ⟨b, 0, none⟩ = some (.int .i64 id)) (hb : va.ownBlock ≠ some b) (hL : L.length ≤ 9223372036854775807) :
    Calls Tryd.prog 68 #[va, .func (.func 69) #[] #[.pointer (some ⟨b, 0, none⟩)]] w fun e w' => ∃ v', e = .returned v' ∧ w'.ownsRow 0 3 1 v' (L.filter fun x => !(x == id)).length ((L.filter fun x => !(x == id)).map (.int .i64)) ∧ Kp (fun x => va.ownBlock = some x) w w' ∧ v'.ownBlock = va.ownBlock := by
  rcases hown.2 with ⟨_, h0⟩ | ⟨g, cap, cur, rfl, hg0, hblk, hn, hcm, hsz, htk⟩
  · exact absurd (List.eq_nil_of_length_eq_zero h0) hne
  have hgb : g ≠ b := fun e => hb (by rw [e]; rfl)
  have hbl : b < w.heap.size := World.block_lt_of_cell? _ _ hc
  rw [Nat.mul_one] at htk
  have hH := holds_ints hblk htk
  have hfl : (L.filter fun x => !(x == id)).length ≤ L.length := List.length_filter_le _ _
  have hcall := AnyE.slices_DeleteFunc delLays (Value.int .i64) (by intro _; rfl) (fun x => x == id) 69 #[.pointer (some ⟨b, 0, none⟩)] (fun args w => by kernel_rfl) 0 (fun w => Tryd.zeroValue3 w) g 0 cap L.toArray w
    (fun W x hW => remove1_calls b id x W (Gr.at hW hc))
    (fun n os dk x _ => remove1_calls b id x _ ((World.cell?_of_block (by
      show (grow (putRow (Value.int .i64) (Go.Sort.ahead w n) g 0 dk) os).heap[b]? = _
      rw [heap_grow_old _ _ (by simpa [putRow, mapBlock, Go.Sort.ahead] using hbl), put_other _ hgb])).trans hc))
    hH (by simpa using hL) (by simpa using hn)
  rw [show (L.toArray).size = L.length from by simp] at hcall
  refine hcall.mono ?_
  rintro e w' ⟨rfl, q, rfl⟩
  refine ⟨_, rfl, ⟨by simp, .inr ⟨g, cap, _, rfl, hg0, put_same _ hblk, by simpa using Nat.le_trans hfl hn, hcm, by simpa [putCells] using hsz, ?_⟩⟩, ⟨rfl, rfl, rfl, by simp [putRow, mapBlock, Go.Sort.ahead], fun k _ hk => put_other _ fun e => hk (by rw [e]; rfl)⟩, rfl⟩
  rw [Nat.mul_one]
  exact take_put cur _ _ (by omega)
end Go.Proofs.YtjdoflfdlhpbmaaDoor

namespace Go.Proofs.YtjdoflfdlhpbmaaDoor
open Go.RowKit Go.Maps Go.Lib

/-- What Remove leaves. -/
def RetRemG (S : Nat → Prop) (B M1 M2 : Nat) (va : Value) (st : BSt) (id : Int) (w : World) (e : Ending) (w' : World) : Prop :=
  match st.wh id with
  | none => e = .returned (.int .i64 8) ∧ Gr w w'
  | some k => ∃ (va' : Value) (st' : BSt), Removed st id k st' ∧ e = .returned (.int .i64 0) ∧ BaseG (fun x => S x ∨ (w.heap.size ≤ x ∧ va'.ownBlock ≠ some x)) w' B M1 M2 va' st' ∧ Kp (Mut B M1 M2 va) w w' ∧
    (va'.ownBlock = va.ownBlock ∨ ∃ g, va'.ownBlock = some g ∧ w.heap.size ≤ g)

theorem ownsRow_ge {w : World} {base : Nat} {e : TypeId} {size : Nat} {v : Value} {n : Nat} {xs : List Value} (h : w.ownsRow base e size v n xs) {b : Nat} (hb : v.ownBlock = some b) : base ≤ b := by
  rcases h.2 with ⟨rfl, _⟩ | ⟨g, cap, cur, rfl, hg, _⟩
  · cases hb
  · cases hb; exact hg
theorem filter_take {X : Type} (f : X → Bool) (L : List X) (k : Nat) (hk : k < L.length) : (L.take (k + 1)).filter f = (L.take k).filter f ++ if f L[k] then [L[k]] else [] := by
  rw [List.take_succ_eq_append_getElem hk, List.filter_append]
  by_cases h : f L[k] <;> simp [h]

set_option maxHeartbeats 8000000 in
set_option maxRecDepth 100000 in
theorem remove_none (S : Nat → Prop) (B M1 M2 : Nat) (va : Value) (st : BSt) (id : Int) (w : World) (hB : BaseG S w B M1 M2 va st) (hS : ∀ x, S x → x < w.heap.size) (hid : In64 id) (_ : st.last ≤ 8388608) (hw : st.wh id = none) :
    Calls Tryd.prog 22 #[.pointer (some ⟨B, 0, none⟩), .int .i64 id] w (RetRemG S B M1 M2 va st id w) := by
  have hR : Hid (∀ w', Gr w w' → RetRemG S B M1 M2 va st id w (.returned (.int .i64 8)) w') := fun w' hg => by
    show match st.wh id with | none => _ | some k => _
    rw [hw]; exact ⟨rfl, hg⟩
  generalize hQ : RetRemG S B M1 M2 va st id w = Q at hR ⊢
  clear hQ
  have HNB := Lib.hid hB
  have HS := Lib.hid hS
  have Hw := Lib.hid hw
  have hBl := hB.blk.lt
  have hM2l := hB.m2.lt
  have hn1 := hB.n1
  have hn2 := hB.n2
  have hn3 := hB.n3
  have hna := Lib.hid hB.na
  have Hkey1 := Lib.hid (keyOf_int_mk Tryd.underlying3 (wf_64 hid))
  clear hB hS hw hid
  go_enter Tryd.func22, Tryd.ntmps22
  try simp only [List.append_eq, List.cons_append, List.nil_append]
  go_upto_region 1 with fail
  have hI : BlkT (w.alloc (.cells #[.int .i64 id] 3)) w.heap.size 3 #[.int .i64 id] := BlkT.new _ _ _
  have gw : Gr w (w.alloc (.cells #[.int .i64 id] 3)) := by go_grown
  have hsA : w.heap.size < (w.alloc (.cells #[.int .i64 id] 3)).heap.size := by simp
  generalize w.alloc (.cells #[.int .i64 id] 3) = wA at *
  have HI := Lib.hid hI
  clear hI
  have HBl := Lib.hid (HNB.out.blk.gr gw)
  have HT2 := Lib.hid (HNB.out.m2.gr gw)
  have b3 := HBl.out.cell 3 (v := .map (some M2)) rfl
  have i0 := HI.out.cell 0 (v := .int .i64 id) rfl
  have hlt0 : w.heap.size < wA.heap.size := hsA
  have hltB : B < wA.heap.size := by omega
  have hlk : ∀ W, Gr wA W → (Instr.lookup 59 (.map (some M2)) (.int .i64 id) true).run Tryd.prog W = .ok (.tuple #[.agg #[.string ⟨#[]⟩, .int .i64 0], .bool false]) W := by
    intro W hW
    have h := (GMap.run (HT2.out.gr hW) (int_keyed Tryd.underlying3) Tryd.underlying59 (zero_bpred W) (x := id) Hkey1.out).2
    rw [Hw.out] at h
    exact h
  have hlA := hlk wA.drew (by go_grown)
  have hlB := hlk (wA.alloc (.cells #[.string ⟨#[]⟩, .int .i64 0] 110)).drew (by go_grown)
  replace hlk := Lib.hid hlk
  go_region
  all_goals
    have hP := BlkT.new wA 110 #[.string ⟨#[]⟩, .int .i64 0]
    have gB : Gr wA (wA.alloc (.cells #[.string ⟨#[]⟩, .int .i64 0] 110)).drew := by go_grown
    have hP2 := hP.gr (by go_grown : Gr _ (wA.alloc (.cells #[.string ⟨#[]⟩, .int .i64 0] 110)).drew)
    generalize (wA.alloc (.cells #[.string ⟨#[]⟩, .int .i64 0] 110)).drew = w10 at *
    clear hP hlA hlB hlk b3 i0
    have HP := Lib.hid hP2
    clear hP2
    have hP5 : w.heap.size < wA.heap.size := hsA
    generalize wA.heap.size = P5 at *
    have gw10 : Gr w w10 := gw.trans gB
    replace HI := Lib.hid (HI.out.gr gB)
    replace HBl := Lib.hid (HBl.out.gr gB)
    replace HT2 := Lib.hid (HT2.out.gr gB)
    go_wp2_with fail
    exact hR.out _ gw10

set_option maxHeartbeats 8000000 in
set_option maxRecDepth 100000 in
theorem remove_some (S : Nat → Prop) (B M1 M2 : Nat) (va : Value) (st : BSt) (id : Int) (w : World) (hB : BaseG S w B M1 M2 va st) (hS : ∀ x, S x → x < w.heap.size) (hid : In64 id) (hlast : st.last ≤ 8388608) (ks : ByteArray) (kn : Int) (hw : st.wh id = some (ks, kn)) :
    Calls Tryd.prog 22 #[.pointer (some ⟨B, 0, none⟩), .int .i64 id] w (RetRemG S B M1 M2 va st id w) := by
  obtain ⟨st', hrem⟩ := Removed.exists st id (ks, kn)
  have Hrem := Lib.hid hrem
  obtain ⟨qv, cv, rfl, hcv⟩ := row_form hB.all
  have hR : Hid (∀ (va' : Value) (w' : World), BaseG (fun x => S x ∨ (w.heap.size ≤ x ∧ va'.ownBlock ≠ some x)) w' B M1 M2 va' st' → Kp (Mut B M1 M2 (.slice qv st.all.length cv)) w w' → (va'.ownBlock = (.slice qv st.all.length cv : Value).ownBlock ∨ ∃ g, va'.ownBlock = some g ∧ w.heap.size ≤ g) → RetRemG S B M1 M2 (.slice qv st.all.length cv) st id w (.returned (.int .i64 0)) w') := fun va' w' h1 h2 h3 => by
    show match st.wh id with | none => _ | some k => _
    rw [hw]; exact ⟨va', st', hrem, rfl, h1, h2, h3⟩
  clear hrem
  generalize hQ : RetRemG S B M1 M2 (.slice qv st.all.length cv) st id w = Q at hR ⊢
  clear hQ
  have HNB := Lib.hid hB
  have HS := Lib.hid hS
  have Hw := Lib.hid hw
  have hBl := hB.blk.lt
  have hM2l := hB.m2.lt
  have hn1 := hB.n1
  have hn2 := hB.n2
  have hn3 := hB.n3
  have hna := Lib.hid hB.na
  have Hkey1 := Lib.hid (keyOf_int_mk Tryd.underlying3 (wf_64 hid))
  obtain ⟨g1, hg1, hrow⟩ := hB.m1
  have hM1l := hg1.lt
  have HG1 := Lib.hid hg1
  have HRow := Lib.hid hrow
  obtain ⟨p, c, M, hgv, hM, hMe⟩ := (hrow (ks, kn)).get
  have HGv := Lib.hid hgv
  have HM := Lib.hid hM
  have HMe := Lib.hid hMe
  have hwk := hB.whk _ _ hw
  have hks : ks.size ≤ 1000 := hwk.1
  have hkn : 0 ≤ kn ∧ kn ≤ 1000 := hwk.2
  have hall : st.all ≠ [] := fun e => by have := hB.wha _ _ hw; rw [e] at this; cases this
  have Hallne := Lib.hid hall
  have h0 : 0 ≤ st.last := by have := hB.bda; omega
  have hMlast : (M.length : Int) ≤ st.last := by
    have h1 : M.length = ((st.pr (ks, kn)).getD []).length := by rw [← hMe, List.length_map]
    rw [h1]
    cases hx : st.pr (ks, kn) with
    | none => exact h0
    | some L => exact hB.bdp _ _ hx
  have hAlast := hB.bda
  have hMc := hM.len
  have hMcap := hM.cap
  have Hkey := Lib.hid (keyOf_bpred (s := ks) (n := kn) (by simp only [maxLen]; omega) (wf_64 ⟨by omega, by omega⟩))
  clear hg1 hrow hgv hM hMe hwk hall
  clear hB hS hw hid
  go_enter Tryd.func22, Tryd.ntmps22
  try simp only [List.append_eq, List.cons_append, List.nil_append]
  go_upto_region 1 with fail
  have hI : BlkT (w.alloc (.cells #[.int .i64 id] 3)) w.heap.size 3 #[.int .i64 id] := BlkT.new _ _ _
  have gw : Gr w (w.alloc (.cells #[.int .i64 id] 3)) := by go_grown
  have hsA : w.heap.size < (w.alloc (.cells #[.int .i64 id] 3)).heap.size := by simp
  generalize w.alloc (.cells #[.int .i64 id] 3) = wA at *
  have HI := Lib.hid hI
  clear hI
  have HBl := Lib.hid (HNB.out.blk.gr gw)
  have HT2 := Lib.hid (HNB.out.m2.gr gw)
  have b3 := HBl.out.cell 3 (v := .map (some M2)) rfl
  have i0 := HI.out.cell 0 (v := .int .i64 id) rfl
  have hlt0 : w.heap.size < wA.heap.size := hsA
  have hltB : B < wA.heap.size := by omega
  have hlk : ∀ W, Gr wA W → (Instr.lookup 59 (.map (some M2)) (.int .i64 id) true).run Tryd.prog W = .ok (.tuple #[.agg #[.string ks, .int .i64 kn], .bool true]) W := by
    intro W hW
    have h := (GMap.run (HT2.out.gr hW) (int_keyed Tryd.underlying3) Tryd.underlying59 (zero_bpred W) (x := id) Hkey1.out).2
    rw [Hw.out] at h
    exact h
  have hlA := hlk wA.drew (by go_grown)
  have hlB := hlk (wA.alloc (.cells #[.string ⟨#[]⟩, .int .i64 0] 110)).drew (by go_grown)
  replace hlk := Lib.hid hlk
  go_region
  all_goals
    have hP := BlkT.new wA 110 #[.string ks, .int .i64 kn]
    have gB : Gr wA (wA.alloc (.cells #[.string ks, .int .i64 kn] 110)).drew := by go_grown
    have hP2 := hP.gr (by go_grown : Gr _ (wA.alloc (.cells #[.string ks, .int .i64 kn] 110)).drew)
    generalize (wA.alloc (.cells #[.string ks, .int .i64 kn] 110)).drew = w10 at *
    clear hP hlA hlB hlk b3 i0
    have HP := Lib.hid hP2
    clear hP2
    have hP5 : w.heap.size < wA.heap.size := hsA
    generalize wA.heap.size = P5 at *
    have gw10 : Gr w w10 := gw.trans gB
    replace HI := Lib.hid (HI.out.gr gB)
    replace HBl := Lib.hid (HBl.out.gr gB)
    replace HT2 := Lib.hid (HT2.out.gr gB)
    go_upto_region 4 with fail
    have b3 := HBl.out.cell 3 (v := .map (some M2)) rfl
    have i0 := HI.out.cell 0 (v := .int .i64 id) rfl
    refine wp_region_rely_tail 5 [fx (.pointer (some ⟨B, 0, none⟩)), fx (.pointer (some ⟨B, 0, none⟩)), fx (.pointer (some ⟨B, 3, none⟩)), fx (.map (some M2)), fx (.int .i64 id)]
      (by kernel_rfl) (by kernel_rfl) (by decide) (by repeat (first | exact Stable.nil | refine Stable.fix ?_)) ?_ ?_
    · refine ⟨?_, ?_, ?_, ?_, ?_, trivial⟩
      all_goals
        intro a wr hg hold
        have h0 : a.tmps[0]?.getD undef = .pointer (some ⟨B, 0, none⟩) := hold 0 rfl
        have h3 : a.tmps[3]?.getD undef = .pointer (some ⟨w.heap.size, 0, none⟩) := hold 3 rfl
        clear hold
        have z3 := Gr.at hg b3
        have y0 := Gr.at hg i0
        clear b3 i0
        simp [predsImp, Region.binds, dstAt, fx]
        intros
        first
          | (rw [if_pos (by simp [*])]
             intro K hK)
          | (rename_i K hK)
        go_simp
      all_goals exact hK _ _ rfl (Gr.rfl' _)
    · intro w11 hg
      rintro _ rfl _ rfl _ rfl _ rfl _ rfl
      replace gw10 := gw10.trans hg
      replace HI := Lib.hid (HI.out.gr hg)
      replace HBl := Lib.hid (HBl.out.gr hg)
      replace HP := Lib.hid (HP.out.gr hg)
      obtain ⟨w12, hrun, HM2, hgb⟩ := GMap.delete (HT2.out.gr hg) (int_keyed Tryd.underlying3) 0 Tryd.underlying59 (x := id) Hkey1.out (fun y => kInt_inj) (g := fun n => (st'.wh n).map kPred) (by rw [Hrem.out.its]; rfl) (fun y hy => by rw [Hrem.out.wh y hy])
      simp only [kInt] at hrun
      have hk := Kp.of_grownBy (C := fun x => x = M2) hgb rfl
      have kw : Kp (Mut B M1 M2 (.slice qv st.all.length cv)) w w12 := (Kp.of_gr gw10).trans (hk.mono fun x hx => .inr (.inr (.inl hx)))
      have gs12 := kw.size
      have HT1 := Lib.hid ((HG1.out.gr gw10).kp hk hn3)
      replace HBl := Lib.hid (HBl.out.kp hk (Ne.symm hn2))
      replace HI := Lib.hid (HI.out.kp hk (by omega))
      replace HP := Lib.hid (HP.out.kp hk (by omega))
      have Hall := Lib.hid (ownsRow_kpv (ownsRow_gr HNB.out.all gw10) hk (fun x hx e => hna.out.2.2 (by rw [hx, e])))
      have HMr := Lib.hid (HM.out.kp kw HNB.out.sep)
      replace HM2 := Lib.hid HM2
      have hI12 := HI.out.lt
      have hP12 := HP.out.lt
      clear hgb hk hg b3 i0 HT2
      simp only [finAll, Act.put, List.setIfInBounds_toArray, List.set_cons_succ, List.set_cons_zero, List.drop_succ_cons, List.drop_zero, List.take_zero]
      go_upto_region 6 with fail
      have b2 := HBl.out.cell 2 (v := .map (some M1)) rfl
      have p0 := HP.out.cell 0 (v := .string ks) rfl
      have p1 := HP.out.cell 1 (v := .int .i64 kn) rfl
      refine wp_region_rely [fx (.pointer (some ⟨B, 0, none⟩)), fx (.pointer (some ⟨B, 0, none⟩)), fx (.pointer (some ⟨B, 2, none⟩)), fx (.map (some M1)), fx (.agg #[.string ks, .int .i64 kn]), fx (.slice p M.length c), fx (.int .i64 M.length), fx (.int .i64 0)]
        (by kernel_rfl) (by kernel_rfl) (by repeat (first | exact Stable.nil | refine Stable.fix ?_)) ?_ ?_
      · refine ⟨?_, ?_, ?_, ?_, ?_, ?_, ?_, ?_, trivial⟩
        all_goals
          intro a wr hg hold
          have h0 : a.tmps[0]?.getD undef = .pointer (some ⟨B, 0, none⟩) := hold 0 rfl
          have h5 : a.tmps[5]?.getD undef = .pointer (some ⟨P5, 0, none⟩) := hold 5 rfl
          clear hold
          have z2 := Gr.at hg b2
          have x0 := Gr.at hg p0
          have x1 := Gr.at hg p1
          have hlk := (GMap.run (HT1.out.gr hg) bpred_keyed Tryd.underlying58 (zero_held wr) (x := (ks, kn)) Hkey.out).1
          rw [HGv.out] at hlk
          simp only [kPred] at hlk
          clear b2 p0 p1
          simp [predsImp, Region.binds, dstAt, fx]
          intros
          first
            | (rw [if_pos (by simp [*])]
               intro K hK)
            | (rename_i K hK)
          go_simp
        all_goals exact hK _ _ rfl (Gr.rfl' _)
      · intro w13 hg
        rintro _ rfl _ rfl _ rfl _ rfl _ rfl _ rfl _ rfl _ rfl
        replace kw := kw.trans (Kp.of_gr hg)
        replace HBl := Lib.hid (HBl.out.gr hg)
        replace HI := Lib.hid (HI.out.gr hg)
        replace HP := Lib.hid (HP.out.gr hg)
        replace HT1 := Lib.hid (HT1.out.gr hg)
        replace HM2 := Lib.hid (HM2.out.gr hg)
        replace Hall := Lib.hid (ownsRow_gr Hall.out hg)
        replace HMr := Lib.hid (HMr.out.gr hg)
        have gs13 := kw.size
        have hs13 := hg.size
        clear hg b2 p0 p1
        simp only [finAll, Act.put, List.setIfInBounds_toArray, List.set_cons_succ, List.set_cons_zero]
        go_wp2_with fail
        go_loopg [7, 33] M.length (fun m v i wr => ∃ (k : Nat) (u : Value), u = v ∧ k ≤ M.length ∧ m = M.length - k ∧ i = .int .i64 k ∧ Hid (wr.ownsRow w13.heap.size 115 9 v ((M.take k).filter (fun y : Hd => !(y.i == id))).length (((M.take k).filter (fun y : Hd => !(y.i == id))).flatMap Hd.cells)) ∧ Gr w13 wr)
        case atStart => exact ⟨0, _, rfl, Nat.zero_le _, rfl, rfl, World.ownsRow_nil _ _ _ _, Gr.rfl' _⟩
        case round =>
          obtain ⟨k, v, rfl, hk, rfl, rfl, hown, gr⟩ := hrel
          by_cases hlt : k < M.length
          · obtain ⟨bR, oR, rfl, _, hbl, _⟩ := HMr.out.row.resolve_left (fun e => by rw [e] at hlt; cases hlt)
            have hz := (HMr.out.gr gr).elem k hlt
            have Hft := Lib.hid (filter_take (fun y : Hd => !(y.i == id)) M k hlt)
            have hfl := List.length_filter_le (fun y : Hd => !(y.i == id)) (M.take k)
            have hfl2 : (M.take k).length ≤ M.length := by rw [List.length_take]; omega
            generalize M[k] = x at *
            have z0 := hz 0 _ rfl
            have z1 := hz 1 _ rfl
            have z2 := hz 2 _ rfl
            have z3 := hz 3 _ rfl
            have z4 := hz 4 _ rfl
            have z5 := hz 5 _ rfl
            have z6 := hz 6 _ rfl
            have z7 := hz 7 _ rfl
            have z8 := hz 8 _ rfl
            simp only [Nat.add_zero] at z0
            clear hz
            go_upto_region 9 with fail
            have hH := BlkT.new wr 115 #[.int .i64 x.i, .int .i64 x.h.k, .int .i64 x.h.n, .string x.h.s, .slice x.h.p x.h.l.length x.h.c, .int .i64 x.b.k, .int .i64 x.b.n, .string x.b.s, .slice x.b.p x.b.l.length x.b.c]
            have gB : Gr wr (wr.alloc (.cells #[.int .i64 x.i, .int .i64 x.h.k, .int .i64 x.h.n, .string x.h.s, .slice x.h.p x.h.l.length x.h.c, .int .i64 x.b.k, .int .i64 x.b.n, .string x.b.s, .slice x.b.p x.b.l.length x.b.c] 115)) := by go_grown
            generalize wr.alloc (.cells #[.int .i64 x.i, .int .i64 x.h.k, .int .i64 x.h.n, .string x.h.s, .slice x.h.p x.h.l.length x.h.c, .int .i64 x.b.k, .int .i64 x.b.n, .string x.b.s, .slice x.b.p x.b.l.length x.b.c] 115) = wB at *
            generalize wr.heap.size = H at *
            have HH := Lib.hid hH
            have Hown := Lib.hid (ownsRow_gr hown.out gB)
            have grB : Gr w13 wB := gr.trans gB
            clear hH gB hown z0 z1 z2 z3 z4 z5 z6 z7 z8
            have v0 := HH.out.cell 0 (v := .int .i64 x.i) rfl
            have i0 := (HI.out.gr grB).cell 0 (v := .int .i64 id) rfl
            cases he : (x.i == id) with
            | true =>
              have he2 : (x.i != id) = false := by simp [bne, he]
              have Hf2 := Lib.hid (show (M.take (k + 1)).filter (fun y : Hd => !(y.i == id)) = (M.take k).filter (fun y : Hd => !(y.i == id)) by rw [Hft.out, he]; simp)
              clear he
              go_wp2_with fail
              go_roundg (M.length - (k + 1))
              case measure => omega
              case rel => exact ⟨k + 1, _, rfl, by omega, rfl, by go_num, by rw [Hf2.out]; exact Hown.out, grB⟩
            | false =>
              have he2 : (x.i != id) = true := by simp [bne, he]
              have Hf2 := Lib.hid (show (M.take (k + 1)).filter (fun y : Hd => !(y.i == id)) = (M.take k).filter (fun y : Hd => !(y.i == id)) ++ [x] by rw [Hft.out, he]; simp)
              clear he
              have v1 := HH.out.cell 1 (v := .int .i64 x.h.k) rfl
              have v2 := HH.out.cell 2 (v := .int .i64 x.h.n) rfl
              have v3 := HH.out.cell 3 (v := .string x.h.s) rfl
              have v4 := HH.out.cell 4 (v := .slice x.h.p x.h.l.length x.h.c) rfl
              have v5 := HH.out.cell 5 (v := .int .i64 x.b.k) rfl
              have v6 := HH.out.cell 6 (v := .int .i64 x.b.n) rfl
              have v7 := HH.out.cell 7 (v := .string x.b.s) rfl
              have v8 := HH.out.cell 8 (v := .slice x.b.p x.b.l.length x.b.c) rfl
              go_wp2_with (first
                | (refine wpList_append_one rfl _ _ 112 115 rfl Tryd.underlying112 infoHeld rfl (by decide) w13.heap.size _ _ _ wB.heap.size 1 x.cells (by rfl) (by rfl) (ownsRow_gr Hown.out (by go_grown)) (by simp; have := grB.size; omega) rfl (by
                     intro j u hu
                     exact (BlkT.new wB 115 x.cells.toArray).cell j (by simpa using hu)) (heldCells_one _ _ _) (by simp only [maxLen]; omega) (by omega) ?_
                   intro v' w4 h2 h3 h4)
                | fail)
              go_roundg (M.length - (k + 1))
              case measure => omega
              case rel =>
                have g4 : Gr w13 w4 := Below.trans (grB.trans (by go_grown)) (grownBy_below h3 (by simp; have := grB.size; omega) fun b hb => ownsRow_ge Hown.out hb)
                exact ⟨k + 1, _, rfl, by omega, rfl, by go_num, by show w4.ownsRow _ _ _ _ _ _; rw [Hf2.out]; simpa [List.flatMap_append] using h2, g4⟩
          · obtain rfl : k = M.length := by omega
            rw [List.take_length] at hown
            have HL0 := Lib.hid hown.out
            clear hown
            replace kw := kw.trans (Kp.of_gr gr)
            replace HBl := Lib.hid (HBl.out.gr gr)
            replace HI := Lib.hid (HI.out.gr gr)
            replace HP := Lib.hid (HP.out.gr gr)
            replace HT1 := Lib.hid (HT1.out.gr gr)
            replace HM2 := Lib.hid (HM2.out.gr gr)
            replace Hall := Lib.hid (ownsRow_gr Hall.out gr)
            replace HMr := Lib.hid (HMr.out.gr gr)
            have gs14 := kw.size
            have hs14 := gr.size
            clear gr
            go_upto_region 12 with fail
            have b2 := HBl.out.cell 2 (v := .map (some M1)) rfl
            have p0 := HP.out.cell 0 (v := .string ks) rfl
            have p1 := HP.out.cell 1 (v := .int .i64 kn) rfl
            refine wp_region_rely_tail 6 [fx (.pointer (some ⟨B, 0, none⟩)), fx (.pointer (some ⟨B, 0, none⟩)), fx (.pointer (some ⟨B, 2, none⟩)), fx (.map (some M1)), fx (.agg #[.string ks, .int .i64 kn]), fx v]
              (by kernel_rfl) (by kernel_rfl) (by decide) (by repeat (first | exact Stable.nil | refine Stable.fix ?_)) ?_ ?_
            · refine ⟨?_, ?_, ?_, ?_, ?_, ?_, trivial⟩
              all_goals
                intro a wr hg hold
                have h0 : a.tmps[0]?.getD undef = .pointer (some ⟨B, 0, none⟩) := hold 0 rfl
                have h5 : a.tmps[5]?.getD undef = .pointer (some ⟨P5, 0, none⟩) := hold 5 rfl
                have h7 : a.tmps[7]?.getD undef = v := hold 7 rfl
                clear hold
                have z2 := Gr.at hg b2
                have x0 := Gr.at hg p0
                have x1 := Gr.at hg p1
                clear b2 p0 p1
                simp [predsImp, Region.binds, dstAt, fx]
                intros
                first
                  | (rw [if_pos (by simp [*])]
                     intro K hK)
                  | (rename_i K hK)
                go_simp
              all_goals exact hK _ _ rfl (Gr.rfl' _)
            · intro w15 hg
              rintro _ rfl _ rfl _ rfl _ rfl _ rfl v rfl
              replace kw := kw.trans (Kp.of_gr hg)
              replace HBl := Lib.hid (HBl.out.gr hg)
              replace HI := Lib.hid (HI.out.gr hg)
              replace HP := Lib.hid (HP.out.gr hg)
              replace HT1 := Lib.hid (HT1.out.gr hg)
              replace HM2 := Lib.hid (HM2.out.gr hg)
              replace Hall := Lib.hid (ownsRow_gr Hall.out hg)
              replace HMr := Lib.hid (HMr.out.gr hg)
              replace HL0 := Lib.hid (ownsRow_gr HL0.out hg)
              have gs15 := kw.size
              have hfl := List.length_filter_le (fun y : Hd => !(y.i == id)) M
              obtain ⟨pL, cL, hvp, hL⟩ : ∃ p c, v = .slice p (M.filter (fun y : Hd => !(y.i == id))).length c ∧ HSl (fun y => S y ∨ (w13.heap.size ≤ y ∧ y < w15.heap.size)) w15 p c (M.filter (fun y : Hd => !(y.i == id))) := by
                refine HSl.of_own HL0.out (fun g h1 h2 => .inr ⟨h1, h2⟩) (by omega) fun y hy => ?_
                obtain ⟨a1, a2, a3, a4, a5, a6⟩ := HMr.out.els y (List.mem_filter.1 hy).1
                exact ⟨a1, a2, a3, a4, a5.mono fun _ h => .inl h, a6.mono fun _ h => .inl h⟩
              have Hvp := Lib.hid hvp
              have HL := Lib.hid hL
              obtain ⟨f1, hf1, hf2⟩ := put_over (ks, kn) v g1
              obtain ⟨w16, hrun, HM1, hgb⟩ := GMap.update HT1.out bpred_keyed Tryd.underlying58 (x := (ks, kn)) Hkey.out (fun y => kPred_inj) v hf1 hf2
              simp only [kPred] at hrun
              clear hg b2 p0 p1 hvp hL
              simp only [finAll, Act.put, List.setIfInBounds_toArray, List.set_cons_succ, List.set_cons_zero, List.drop_succ_cons, List.drop_zero, List.take_zero]
              go_upto_region 13 with fail
              have hk1 : Kp (fun x => x = M1) w15 w16 := Kp.of_grownBy hgb rfl
              have kr : Kp (Mut B M1 M2 (.slice qv st.all.length cv)) w15 w16 := hk1.mono fun x hx => .inr (.inl hx)
              replace kw := kw.trans kr
              replace HBl := Lib.hid (HBl.out.kp hk1 (Ne.symm hn1))
              replace HI := Lib.hid (HI.out.kp hk1 (by omega))
              replace HM2 := Lib.hid (HM2.out.kp hk1 (Ne.symm hn3))
              replace Hall := Lib.hid (ownsRow_kpv Hall.out hk1 (fun x hx e => hna.out.2.1 (by rw [hx, e])))
              replace HM1 := Lib.hid HM1
              clear hrun hgb hk1 HT1
              have b1 := HBl.out.cell 1 (v := .slice qv st.all.length cv) rfl
              have i0 := HI.out.cell 0 (v := .int .i64 id) rfl
              have f1' := HBl.out.open_ 1
              have hmf : ∀ (fn : Fn) (first cap : Array Value) (w : World), (Instr.makeFunc fn first cap).run Tryd.prog w = .ok (.func fn first cap) w := fun _ _ _ _ => rfl
              have hvl : Hid (∀ x, (.slice qv st.all.length cv : Value).ownBlock = some x → x < w.heap.size) := fun x hx => HNB.out.lt x (.inr (.inr (.inr hx)))
              go_upto_region 14 with (first
                | (go_at_call 68; refine (deleteFunc_gen (.slice qv st.all.length cv) st.all w.heap.size id w16 Hall.out Hallne.out i0 (fun e => by have := hvl.out _ e; omega) (by omega)).mono ?_; rintro e w17 ⟨v2, rfl, ho2, hkd, hob⟩; obtain ⟨q2, c2, rfl, _⟩ := row_form ho2; have HO2 := Lib.hid ho2; have HKd := Lib.hid hkd; have Hob := Lib.hid hob; replace HBl := Lib.hid (HBl.out.kp hkd hna.out.1); clear ho2 hkd hob b1 i0 f1'; have b1 := HBl.out.cell 1 (v := .slice qv st.all.length cv) rfl; have f1' := HBl.out.open_ 1)
                | fail)
              have hk2 : Kp (fun x => x = B) w17 (w17.setCell ⟨B, 1, none⟩ (.slice q2 (st.all.filter fun x => !(x == id)).length c2)) := Kp.set rfl
              have hB2 := HBl.out.set 1 (.slice q2 (st.all.filter fun x => !(x == id)).length c2)
              simp only [List.setIfInBounds_toArray, List.set_cons_succ, List.set_cons_zero] at hB2
              generalize w17.setCell ⟨B, 1, none⟩ (.slice q2 (st.all.filter fun x => !(x == id)).length c2) = wZ at *
              replace kw := (kw.trans (HKd.out.mono fun b hb => .inr (.inr (.inr hb)))).trans (hk2.mono fun x hx => .inl hx)
              replace kr := (kr.trans (HKd.out.mono fun b hb => .inr (.inr (.inr hb)))).trans (hk2.mono fun x hx => .inl hx)
              replace HM1 := Lib.hid ((HM1.out.kp HKd.out hna.out.2.1).kp hk2 hn1)
              replace HM2 := Lib.hid ((HM2.out.kp HKd.out hna.out.2.2).kp hk2 hn2)
              replace HO2 := Lib.hid (ownsRow_kpv HO2.out hk2 fun x hx e => hna.out.1 (by rw [← Hob.out, hx, e]))
              replace HBl := Lib.hid hB2
              clear hk2 hB2
              have hKn : ∀ x, w13.heap.size ≤ x → ¬ (Mut B M1 M2 (.slice qv st.all.length cv)) x := by
                intro x hx h
                rcases h with h | h | h | h
                · omega
                · omega
                · omega
                · have := hvl.out x h; omega
              have hLn : Hid (∀ y, (S y ∨ (w13.heap.size ≤ y ∧ y < w15.heap.size)) → ¬ (Mut B M1 M2 (.slice qv st.all.length cv)) y) := fun y hy => hy.elim (fun h => HNB.out.sep y h) fun h => hKn y h.1
              have hfin : Hid (BaseG (fun x => S x ∨ (w.heap.size ≤ x ∧ (.slice q2 (st.all.filter fun x => !(x == id)).length c2 : Value).ownBlock ≠ some x)) wZ B M1 M2 (.slice q2 (st.all.filter fun x => !(x == id)).length c2) st') := by
                refine ⟨by rw [Hrem.out.last]; exact HBl.out, by rw [Hrem.out.all]; exact HO2.out, ⟨f1, HM1.out, fun k => ?_⟩, HM2.out, fun m k hk => ?_, fun m k hk => ?_, fun k L hk y hy => ?_, fun k L hk => ?_, ?_, hn1, hn2, hn3, by rw [Hob.out]; exact hna.out, fun x hx hm => ?_⟩
                · by_cases hk : k = (ks, kn)
                  · subst hk
                    rw [hf1, Hrem.out.here]
                    refine ⟨_, _, _, congrArg some Hvp.out, (HL.out.kp kr hLn.out).mono fun x hx hlt => hx.imp (fun h => h) fun hx => ⟨by omega, fun e => ?_⟩, ?_⟩
                    · rw [Hob.out] at e; have := hvl.out x e; omega
                    · rw [← HMe.out, List.filter_map]; rfl
                  · rw [hf2 k hk, Hrem.out.pr k hk]
                    exact ((HRow.out k).kp kw HNB.out.sep).mono fun x hx _ => .inl hx
                · by_cases hm : m = id
                  · subst hm; rw [Hrem.out.its] at hk; cases hk
                  · rw [Hrem.out.wh m hm] at hk; exact HNB.out.whk m k hk
                · by_cases hm : m = id
                  · subst hm; rw [Hrem.out.its] at hk; cases hk
                  · rw [Hrem.out.wh m hm] at hk; have := HNB.out.wha m k hk; rw [Hrem.out.all]; simp [this, hm]
                · by_cases hk' : k = (ks, kn)
                  · subst hk'
                    rw [Hrem.out.here] at hk
                    cases hk
                    have hz := (List.mem_filter.1 hy).1
                    cases hx : st.pr (ks, kn) with
                    | none => rw [hx] at hz; cases hz
                    | some L => rw [hx] at hz; exact HNB.out.hds _ L hx y hz
                  · rw [Hrem.out.pr k hk'] at hk; exact HNB.out.hds k L hk y hy
                · rw [Hrem.out.last]
                  by_cases hk' : k = (ks, kn)
                  · subst hk'
                    rw [Hrem.out.here] at hk
                    cases hk
                    have h1 : M.length = ((st.pr (ks, kn)).getD []).length := by rw [← HMe.out, List.length_map]
                    have h2 := List.length_filter_le (fun y : HdT => !(y.i == id)) ((st.pr (ks, kn)).getD [])
                    omega
                  · rw [Hrem.out.pr k hk'] at hk; exact HNB.out.bdp k L hk
                · rw [Hrem.out.last, Hrem.out.all]; have := HNB.out.bda; have := List.length_filter_le (fun x => !(x == id)) st.all; omega
                · rcases hx with hx | ⟨hx, hx2⟩
                  · refine HNB.out.sep x hx ?_
                    rcases hm with hm | hm | hm | hm
                    · exact .inl hm
                    · exact .inr (.inl hm)
                    · exact .inr (.inr (.inl hm))
                    · rw [Hob.out] at hm; exact .inr (.inr (.inr hm))
                  · rcases hm with hm | hm | hm | hm
                    · omega
                    · omega
                    · omega
                    · exact hx2 hm
              go_wp2_with fail
              exact hR.out _ _ hfin.out kw (.inl Hob.out)

theorem remove_gen (S : Nat → Prop) (B M1 M2 : Nat) (va : Value) (st : BSt) (id : Int) (w : World) (hB : BaseG S w B M1 M2 va st) (hS : ∀ x, S x → x < w.heap.size) (hid : In64 id) (hlast : st.last ≤ 8388608) :
    Calls Tryd.prog 22 #[.pointer (some ⟨B, 0, none⟩), .int .i64 id] w (RetRemG S B M1 M2 va st id w) := by
  cases hw : st.wh id with
  | none => exact remove_none S B M1 M2 va st id w hB hS hid hlast hw
  | some k => exact remove_some S B M1 M2 va st id w hB hS hid hlast k.1 k.2 hw
end Go.Proofs.YtjdoflfdlhpbmaaDoor
