/-
  The store's cut.
  The store's Join.
  term.Map with a function of which something is known at the term's own variables.
-/
import Derived.Test.YtjdoflfdlhpbmaaGreatBF28
import Derived.Test.YtjdoflfdlhpbmaaGreatBF18
namespace Go.Proofs.YtjdoflfdlhpbmaaGreat
open Go.RowKit Go.Maps Go.Lib

theorem TMap.delete {S : Nat → Prop} {w : World} {b : Nat} {f : Int → Option T} (h : TMap S w b f) (hb : ∀ x, S x → x ≠ b) {n : Int} (hn : In64 n) :
    ∃ w', (Builtin.delete_ #[119, 2] 0 #[.map (some b), .int .i64 n]).run Tryz.prog w = .ok (.tuple #[]) w' ∧ TMap S w' b (fun x => if x = n then none else f x) ∧ w.grownBy w' (some b) := by
  obtain ⟨⟨g, h1, h2⟩, h3, h4⟩ := h
  obtain ⟨w', hr, hg, hgb, hs⟩ := h1.deleteS h3 (int_keyed Tryz.underlying2) 0 Tryz.underlying119 (x := n) (keyOf_int_mk Tryz.underlying2 (wf_64 hn)) (fun y hy => kI64_inj hy) (g := fun x => if x = n then none else g x) (if_pos rfl) (fun y hy => if_neg hy)
  have hk : Kp (· = b) w w' := Kp.of_grownBy hgb rfl
  refine ⟨w', hr, ⟨⟨_, hg, fun x => ?_⟩, hs, fun x hx => ?_⟩, hgb⟩
  · by_cases hx : x = n
    · simp only [if_pos hx]
    · simp only [if_neg hx]
      have := h2 x
      cases hfx : f x with
      | none => rw [hfx] at this; exact this
      | some t =>
        rw [hfx] at this
        obtain ⟨u, i1, i2, i3, i4, i5⟩ := this
        exact ⟨u, i1, in_after' i2 i5 fun y hy hl _ => World.cell?_of_block (hk.block y hl (hb y hy)), i3, i4, i5⟩
  · by_cases hxn : x = n
    · exact absurd (if_pos hxn) hx
    · exact h4 x (by simpa [hxn] using hx)

/-- The first numbers of a row. -/
theorem IntsOwn.take {w : World} {B : Nat} {p : Option Addr} {n c : Nat} {L : List Int} (h : IntsOwn w B (.slice p n c) L) (k : Nat) (hk : k ≤ L.length) (hp : p ≠ none) : IntsOwn w B (.slice p k c) (L.take k) := by
  have hl : (L.take k).length = k := by rw [List.length_take]; omega
  unfold IntsOwn at h ⊢
  rcases h.2 with ⟨h0, _⟩ | ⟨g, cap, cur, h0, h2, h3, h4, h5, h6, h7⟩
  · cases h0
    exact absurd rfl hp
  · cases h0
    refine ⟨by simp, .inr ⟨g, c, cur, by rw [hl], h2, h3, by rw [hl]; omega, h5, h6, ?_⟩⟩
    have h8 := congrArg (List.take k) h7
    simp only [List.take_take] at h8
    rw [hl, List.map_take, ← h8]
    congr 1
    omega
/-- What stands of a store when the last ones have been taken out of its map. -/
def cutF (σ : Int → Option T) (l : List Int) : Int → Option T := fun n => if n ∈ l then none else σ n
theorem cutF_snoc (σ : Int → Option T) (l : List Int) (k : Nat) (hk : k < l.length) : (fun x => if x = l[k] then none else cutF σ (l.take k) x) = cutF σ (l.take (k + 1)) := by
  funext x
  rw [cutF, cutF, List.take_succ_eq_append_getElem hk]
  by_cases h1 : x = l[k]
  · rw [if_pos h1, if_pos (by rw [h1]; exact List.mem_append.2 (.inr (List.mem_singleton.2 rfl)))]
  · rw [if_neg h1]
    by_cases h2 : x ∈ l.take k
    · rw [if_pos h2, if_pos (List.mem_append.2 (.inl h2))]
    · rw [if_neg h2, if_neg fun h => (List.mem_append.1 h).elim h2 fun h3 => h1 (List.mem_singleton.1 h3)]

theorem cutF_all {σ σ' : Int → Option T} {new : List Int} (fr : ∀ n, n ∈ new → σ n = none) (ke : ∀ n, n ∉ new → σ' n = σ n) : cutF σ' new = σ := by
  funext n
  rw [cutF]
  by_cases h : n ∈ new
  · rw [if_pos h, fr n h]
  · rw [if_neg h, ke n h]
/-- What stands when the trail has been cut, too. -/
theorem SM.cut {S : Nat → Prop} {B : Nat} {w w1 : World} {P M : Nat} {vm : Value} {p : Option Addr} {c : Nat} {σ σ' : Int → Option T} {tr new mk : List Int} (h : SM S B w P M (.slice p (tr ++ new).length c) vm σ' (tr ++ new) mk) (fr : ∀ n, n ∈ new → σ n = none) (ke : ∀ n, n ∉ new → σ' n = σ n)
    (hm : TMap S w1 M (cutF σ' new)) (hk : Kp (· = M) w w1) :
    SM S B (w1.setCell ⟨P, 1, none⟩ (.slice p tr.length c)) P M (.slice p tr.length c) vm σ tr mk ∧ Kp (MutU P M (.slice p (tr ++ new).length c)) w (w1.setCell ⟨P, 1, none⟩ (.slice p tr.length c)) ∧ (Value.slice p tr.length c).ownBlock = (Value.slice p (tr ++ new).length c).ownBlock := by
  have hob : (Value.slice p tr.length c).ownBlock = (Value.slice p (tr ++ new).length c).ownBlock := by cases p <;> rfl
  rw [cutF_all fr ke] at hm
  have k2 : Kp (· = P) w1 (w1.setCell ⟨P, 1, none⟩ (.slice p tr.length c)) := Kp.set rfl
  have kall : Kp (MutU P M (.slice p (tr ++ new).length c)) w (w1.setCell ⟨P, 1, none⟩ (.slice p tr.length c)) := (hk.mono fun b hb => .inr (.inl hb)).trans (k2.mono fun b hb => .inl hb)
  have hP1 : BlkT w1 P 121 #[.map (some M), .slice p (tr ++ new).length c, vm] := h.blk.kp hk h.nPM
  have htr1 : IntsOwn w1 B (.slice p (tr ++ new).length c) (tr ++ new) := own_kp h.tro hk fun b hb e => h.nt.2 (e ▸ hb)
  refine ⟨⟨hP1.set 1 _, hm.kp k2 (fun e => h.nPM e.symm) fun x hx => (h.sepS x hx).2.1, ?_, ?_, ?_, fun n => ?_, ?_, h.nPM, ?_, h.nm, ?_, ?_⟩, kall, hob⟩
  · have h2 : IntsOwn w1 B (.slice p tr.length c) tr := by
      cases p with
      | none =>
        rcases htr1.2 with ⟨h0, h1⟩ | ⟨g, cap, cur, h0, _⟩
        · have hn : tr = [] := by
            have : (tr ++ new).length = 0 := h1
            rw [List.length_append] at this
            exact List.eq_nil_of_length_eq_zero (by omega)
          subst hn
          injection h0 with _ _ h3
          rw [h3]
          exact IntsOwn.nil _ _
        · cases h0
      | some a =>
        have := htr1.take tr.length (by rw [List.length_append]; omega) (by simp)
        rw [List.take_left] at this
        exact this
    exact own_kp h2 k2 fun b hb e => by
      rw [hob, e] at hb
      exact h.nt.1 hb
  · exact own_kp h.mko kall fun b hb hm => by
      rcases hm with rfl | rfl | hm
      · exact h.nm.1 hb
      · exact h.nm.2 hb
      · exact h.ntm b hm hb
  · exact (List.nodup_append.1 h.trn).1
  · constructor
    · intro hn
      have h1 := (h.tri n).1 (List.mem_append.2 (.inl hn))
      rwa [ke n fun h2 => (List.nodup_append.1 h.trn).2.2 n hn n h2 rfl] at h1
    · intro hn
      by_cases h2 : n ∈ new
      · exact absurd (fr n h2) hn
      · rw [← ke n h2] at hn
        rcases List.mem_append.1 ((h.tri n).2 hn) with h3 | h3
        · exact h3
        · exact absurd h3 h2
  · intro b hb
    obtain ⟨s1, s2, s3, s4, s5⟩ := h.sepS b hb
    exact ⟨Nat.lt_of_lt_of_le s1 (by simpa using hk.size), s2, s3, by rw [hob]; exact s4, s5⟩
  · rw [hob]; exact h.nt
  · intro b hb
    rw [hob] at hb
    exact h.ntm b hb
  · have := h.bnd
    have := hk.size
    simp
    omega

def RetCut (S : Nat → Prop) (B P M : Nat) (vt vm : Value) (σ : Int → Option T) (tr mk : List Int) (w : World) (e : Ending) (w' : World) : Prop :=
  e = .returned (.tuple #[]) ∧ ∃ vt', SM S B w' P M vt' vm σ tr mk ∧ Kp (MutU P M vt) w w' ∧ vt'.ownBlock = vt.ownBlock

set_option maxHeartbeats 1000000 in
set_option maxRecDepth 100000 in
theorem cut_calls {S : Nat → Prop} {B : Nat} {w : World} {P M : Nat} {vt vm : Value} {σ σ' : Int → Option T} {tr new mk : List Int} (hs : SM S B w P M vt vm σ' (tr ++ new) mk) (fr : ∀ n, n ∈ new → σ n = none) (ke : ∀ n, n ∉ new → σ' n = σ n) :
    Calls Tryz.prog 64 #[.pointer (some ⟨P, 0, none⟩), .int .i64 tr.length] w (RetCut S B P M vt vm σ tr mk w) := by
  have HS := Lib.hid hs
  have hlen := hs.len
  rw [List.length_append] at hlen
  obtain ⟨p, c, rfl⟩ := hs.tro.form
  have hin64 : ∀ n ∈ tr ++ new, In64 n := fun n hn => by have := hs.range n hn; constructor <;> omega
  have hsl := (hs.tro.sl hin64).2
  have htc : (tr ++ new).length ≤ c ∧ c ≤ 9223372036854775807 := ⟨hsl.1, hsl.2.1⟩
  have hQ0 : Hid (∀ w1, TMap S w1 M (cutF σ' new) → Kp (· = M) w w1 → RetCut S B P M (.slice p (tr ++ new).length c) vm σ tr mk w (.returned (.tuple #[])) (w1.setCell ⟨P, 1, none⟩ (.slice p tr.length c))) := fun w1 h1 h2 => by
    obtain ⟨h3, h4, h5⟩ := SM.cut hs fr ke h1 h2
    exact ⟨rfl, _, h3, h4, h5⟩
  generalize RetCut S B P M (.slice p (tr ++ new).length c) vm σ tr mk w = Q at hQ0 ⊢
  have HQ := hQ0
  have hpb := hs.blk.cell 1 (v := .slice p (tr ++ new).length c) rfl
  have hpm := hs.blk.cell 0 (v := .map (some M)) rfl
  have hpf := hs.blk.open_ 1
  have hMl := hs.map.lt
  have hPl := hs.blk.lt
  rw [List.length_append] at hpb htc
  by_cases hn : new = []
  · have HT := Lib.hid hs.map
    have hcf : cutF σ' new = σ' := by funext n; rw [cutF, if_neg]; rw [hn]; exact fun h => nomatch h
    have Hcf := Lib.hid hcf
    have hl0 : new.length = 0 := by rw [hn]; rfl
    rw [hl0] at hpb htc hlen
    clear hs fr ke hQ0 hn hl0 hcf hin64 hsl
    by_cases hc : c = tr.length
    · subst hc
      have hz : tr.length - tr.length = 0 := Nat.sub_self _
      cases p <;>
        (go_enter Tryz.func64, Tryz.ntmps64
         try simp only [List.append_eq, List.cons_append, List.nil_append]
         go_wp2_with fail
         go_loopg [13] 0 (fun m i wr => m = 0 ∧ i = .int .i64 0 ∧ w = wr)
         case atStart => exact ⟨rfl, rfl, rfl⟩
         case round =>
           obtain ⟨rfl, rfl, rfl⟩ := hrel
           go_wp2_with fail
           go_end0
           exact HQ.out _ (by rw [Hcf.out]; exact HT.out) (Kp.refl _ _))
    · have hz : ¬ (c - tr.length = 0) := by omega
      cases p <;>
        (go_enter Tryz.func64, Tryz.ntmps64
         try simp only [List.append_eq, List.cons_append, List.nil_append]
         go_wp2_with fail
         go_loopg [13] 0 (fun m i wr => m = 0 ∧ i = .int .i64 0 ∧ w = wr)
         case atStart => exact ⟨rfl, rfl, rfl⟩
         case round =>
           obtain ⟨rfl, rfl, rfl⟩ := hrel
           go_wp2_with fail
           go_end0
           exact HQ.out _ (by rw [Hcf.out]; exact HT.out) (Kp.refl _ _))
  · have hpos : 0 < new.length := List.length_pos_iff.2 hn
    have hcc : ¬ (c - tr.length = 0) := by omega
    obtain ⟨g, rfl⟩ : ∃ g, p = some ⟨g, 0, none⟩ := by
      rcases hs.tro.2 with ⟨h0, h1⟩ | ⟨g, cap, cur, h0, _⟩
      · have : (tr ++ new).length = 0 := h1
        rw [List.length_append] at this
        omega
      · injection h0 with h0
        exact ⟨g, h0⟩
    have hgM : g ≠ M := fun e => hs.nt.2 (by rw [e]; rfl)
    have Hcell : Hid (∀ (k : Nat) (h : k < new.length), w.cell? ⟨g, tr.length + k, none⟩ = some (.int .i64 new[k])) := fun k h => by
      obtain ⟨_, _, _, h4⟩ := hsl
      rcases h4 with h4 | ⟨b, o, hp, _, h5⟩
      · have := congrArg List.length h4
        rw [List.length_append, List.length_nil] at this
        omega
      · cases hp
        have h6 := h5 (tr.length + k) new[k] (by rw [List.getElem?_append_right (by omega), Nat.add_sub_cancel_left, List.getElem?_eq_getElem h])
        rwa [Nat.zero_add] at h6
    have H64 : Hid (∀ (k : Nat) (h : k < new.length), In64 new[k]) := fun k h => hin64 _ (List.mem_append.2 (.inr (List.getElem_mem h)))
    have HSx : Hid (∀ x, S x → x ≠ M) := fun x hx => (hs.sepS x hx).2.2.1
    have HT := Lib.hid hs.map
    clear hs fr ke hQ0 hin64 hsl hn
    go_enter Tryz.func64, Tryz.ntmps64
    try simp only [List.append_eq, List.cons_append, List.nil_append]
    go_wp2_with fail
    go_loopg [13] new.length (fun m i wr => ∃ k : Nat, k ≤ new.length ∧ m = new.length - k ∧ i = .int .i64 k ∧ Hid (TMap S wr M (cutF σ' (new.take k))) ∧ Hid (Kp (· = M) w wr))
    case atStart => exact ⟨0, Nat.zero_le _, by omega, rfl, by show TMap _ _ _ _; rw [show cutF σ' (new.take 0) = σ' from funext fun n => by rw [cutF, List.take_zero, if_neg (by simp)]]; exact HT.out, Kp.refl _ _⟩
    case round =>
      obtain ⟨k, hk, rfl, rfl, hm, hkp⟩ := hrel
      have pb := Kp.cell hkp.out hpb (show ¬ (P = M) from HS.out.nPM)
      have pm := Kp.cell hkp.out hpm (show ¬ (P = M) from HS.out.nPM)
      have pf := (HS.out.blk.kp hkp.out HS.out.nPM).open_ 1
      by_cases hlt : k < new.length
      · have c0 := Kp.cell hkp.out (Hcell.out k hlt) (show ¬ (g = M) from hgM)
        obtain ⟨w5, hrun, hm5, hg5⟩ := hm.out.delete HSx.out (H64.out k hlt)
        rw [cutF_snoc σ' new k hlt] at hm5
        have Hm5 := Lib.hid hm5
        have Hk5 : Hid (Kp (· = M) w w5) := hkp.out.trans (Kp.of_grownBy hg5 rfl)
        clear hm5 hg5
        generalize new[k] = x at *
        go_wp2_with fail
        go_roundg (new.length - (k + 1))
        case measure => omega
        case rel => exact ⟨k + 1, by omega, rfl, by go_num, Hm5, Hk5⟩
      · obtain rfl : k = new.length := by omega
        have hmm := hm.out
        rw [List.take_length] at hmm
        have Hmm := Lib.hid hmm
        clear hmm
        go_wp2_with fail
        go_end0
        exact HQ.out _ Hmm.out hkp.out
end Go.Proofs.YtjdoflfdlhpbmaaGreat

namespace Go.Proofs.YtjdoflfdlhpbmaaGreat
open Go.RowKit Go.Maps Go.Lib

theorem infoIntE : (Tryz.prog.info? 3).map (fun i => (i.zero, i.size, i.bytes)) = some (some (.int .i64 0), 1, 8) := by kernel_rfl
/-- append of one int. -/
theorem wpList_append_int' {P : Program} {w : World} {ops : Array Oper} {rest : List Oper} {o : Oper} {a : Act} {Q : Exit → Act → World → Prop} (hgd : o.guard = none) (s y : Operand)
    (ho : o.op = .call { callee := .builtin .append, args := #[s, y], argTypes := #[36, 36] }) (hP : P = Tryz.prog)
    (B : Nat) (v : Value) (L : List Int) (x : Int) (b c : Nat) (hs : a.eval s = v) (hy : a.eval y = .slice (some ⟨b, 0, none⟩) 1 c) (h : w.ownsRow B 3 1 v L.length (L.map (Value.int .i64))) (hB : B ≤ w.heap.size) (hl : (L.length + 1) * 8 ≤ 140737488351232)
    (c0 : w.cell? ⟨b, 0, none⟩ = some (.int .i64 x))
    (hK : ∀ v' w', w'.ownsRow B 3 1 v' (L ++ [x]).length ((L ++ [x]).map (Value.int .i64)) → w.grownBy w' v.ownBlock → (v'.ownBlock = v.ownBlock ∨ v'.ownBlock = some w.heap.size) → wpList P ops Q rest (a.put o.dst v') w') : wpList P ops Q (o :: rest) a w := by
  subst hP
  refine wpList_append_one hgd s y 36 3 ho Tryz.underlying36 infoIntE rfl (by decide) B v L.length (L.map (Value.int .i64)) b c [.int .i64 x] hs hy h hB rfl (by
    intro j u hu
    match j, hu with
    | 0, hu => cases hu; exact c0
    | j + 1, hu => simp at hu) (by
    intro u hu
    simp only [List.mem_cons, List.mem_nil_iff, or_false] at hu
    rw [hu]; rfl) (by simp only [maxLen]; omega) (by omega) ?_
  intro v' w' h2 h3 h4
  refine hK v' w' ?_ h3 h4
  rw [List.length_append, List.map_append]
  exact h2
theorem own_form {w : World} {B e sz n : Nat} {v : Value} {xs : List Value} (h : w.ownsRow B e sz v n xs) : ∃ p c, v = .slice p n c := by
  rcases h.2 with ⟨rfl, h0⟩ | ⟨g, cap, cur, rfl, _⟩
  · exact ⟨none, 0, by rw [h0]⟩
  · exact ⟨_, _, rfl⟩

/-- All blocks that a store may write to. -/
def MutA (P M : Nat) (vt vm : Value) (b : Nat) : Prop := MutU P M vt b ∨ vm.ownBlock = some b
/-- What a store is after a Join. -/
structure JN (S : Nat → Prop) (B P M : Nat) (vt vm : Value) (σ : Int → Option T) (tr mk : List Int) (ρ : Int → T) (a b : T) (w : World) (r : Bool) (vt' vm' : Value) (σ' : Int → Option T) (ρ' : Int → T) (tr' mk' : List Int) (w' : World) : Prop where
  sm : SM S B w' P M vt' vm' σ' tr' mk'
  ok : StoreOk σ' ρ'
  kp : Kp (MutA P M vt vm) w w'
  lt : ∀ b, vt'.ownBlock = some b → b < w.heap.size → vt.ownBlock = some b
  lm : ∀ b, vm'.ownBlock = some b → b < w.heap.size → vm.ownBlock = some b
  yes : r = true → Through ρ' ρ ∧ T.map ρ' a = T.map ρ' b ∧ (∀ θ, Through θ ρ → T.map θ a = T.map θ b → Through θ ρ') ∧ mk' = mk ++ [(tr.length : Int)] ∧ ∃ new, tr' = tr ++ new ∧ (∀ n, n ∈ new → σ n = none) ∧ ∀ n, n ∉ new → σ' n = σ n
  no : r = false → σ' = σ ∧ ρ' = ρ ∧ tr' = tr ∧ mk' = mk ∧ ∀ θ, Through θ ρ → T.map θ a ≠ T.map θ b
def RetJN (S : Nat → Prop) (B P M : Nat) (vt vm : Value) (σ : Int → Option T) (tr mk : List Int) (ρ : Int → T) (a b : T) (w : World) (e : Ending) (w' : World) : Prop :=
  ∃ r vt' vm' σ' ρ' tr' mk', e = .returned (.bool r) ∧ JN S B P M vt vm σ tr mk ρ a b w r vt' vm' σ' ρ' tr' mk' w'

/-- A mark is laid. -/
theorem SM.mark {S : Nat → Prop} {B : Nat} {w w2 : World} {P M : Nat} {vt vm vm' : Value} {σ : Int → Option T} {tr mk mk' : List Int} (h : SM S B w P M vt vm σ tr mk) (h2 : w2.ownsRow B 3 1 vm' mk'.length (mk'.map (Value.int .i64))) (k2 : Kp (fun b => vm.ownBlock = some b) w w2) (hv : vm'.ownBlock = vm.ownBlock ∨ ∃ b, vm'.ownBlock = some b ∧ w.heap.size ≤ b) :
    SM S B (w2.setCell ⟨P, 2, none⟩ vm') P M vt vm' σ tr mk' ∧ Kp (MutA P M vt vm) w (w2.setCell ⟨P, 2, none⟩ vm') := by
  have k3 : Kp (· = P) w2 (w2.setCell ⟨P, 2, none⟩ vm') := Kp.set rfl
  have kall : Kp (MutA P M vt vm) w (w2.setCell ⟨P, 2, none⟩ vm') := (k2.mono fun b hb => .inr hb).trans (k3.mono fun b hb => .inl (.inl hb))
  have hP2 : BlkT w2 P 121 #[.map (some M), vt, vm] := h.blk.kp k2 h.nm.1
  have hPl := h.blk.lt
  have hMl := h.map.lt
  have hvP : vm'.ownBlock ≠ some P := by
    rcases hv with hv | ⟨b, hv, hb⟩
    · rw [hv]; exact h.nm.1
    · rw [hv]; intro e; cases e; omega
  have hvM : vm'.ownBlock ≠ some M := by
    rcases hv with hv | ⟨b, hv, hb⟩
    · rw [hv]; exact h.nm.2
    · rw [hv]; intro e; cases e; omega
  have nP : ∀ x, x = P → ¬ (vm.ownBlock = some x) := fun x hx => by rw [hx]; exact h.nm.1
  refine ⟨⟨hP2.set 2 vm', ?_, ?_, ?_, h.trn, h.tri, ?_, h.nPM, h.nt, ⟨hvP, hvM⟩, ?_, ?_⟩, kall⟩
  · exact (h.map.kp k2 h.nm.2 fun x hx => (h.sepS x hx).2.2.2.2).kp k3 (fun e => h.nPM e.symm) fun x hx => (h.sepS x hx).2.1
  · exact own_kp (own_kp h.tro k2 fun b hb e => h.ntm b hb e) k3 fun b hb e => by rw [e] at hb; exact h.nt.1 hb
  · exact own_kp h2 k3 fun b hb e => by rw [e] at hb; exact hvP hb
  · intro b hb
    obtain ⟨s1, s2, s3, s4, s5⟩ := h.sepS b hb
    refine ⟨Nat.lt_of_lt_of_le s1 (by simpa using k2.size), s2, s3, s4, ?_⟩
    rcases hv with hv | ⟨b', hv, hb'⟩
    · rw [hv]; exact s5
    · rw [hv]; intro e; cases e; omega
  · intro b hb
    rcases hv with hv | ⟨b', hv, hb'⟩
    · rw [hv]; exact h.ntm b hb
    · rw [hv]
      intro e
      cases e
      have := own_lt h.tro hb
      omega
  · have := h.bnd
    have := k2.size
    simp
    omega

set_option maxHeartbeats 1000000 in
set_option maxRecDepth 100000 in
theorem Join_calls {S : Nat → Prop} {B : Nat} {w : World} {P M : Nat} {vt vm : Value} {σ : Int → Option T} {tr mk : List Int} {ρ : Int → T} (hs : SM S B w P M vt vm σ tr mk) (ho : StoreOk σ ρ) (a b : Tm) (ia : a.In w) (ib : b.In w) (oa : a.On S) (ob : b.On S) (fa : a.erase.formed = true) (fb : b.erase.formed = true) (hmk : (mk.length + 1) * 8 ≤ 140737488351232) :
    Calls Tryz.prog 42 #[.pointer (some ⟨P, 0, none⟩), a.val, b.val] w (RetJN S B P M vt vm σ tr mk ρ a.erase b.erase w) := by
  have HS := Lib.hid hs
  have HO := Lib.hid ho
  obtain ⟨pt, ct, hvt⟩ := hs.tro.form
  have hlen := hs.len
  have hPl := hs.blk.lt
  have hMl := hs.map.lt
  have hjo := fun w' (g : Gr w w') => join_calls (hs.gr g) ho a b (Tm.In_below g ia) (Tm.In_below g ib) oa ob fa fb
  have hpb := hs.blk.cell 1 (v := vt) rfl
  generalize hQ : RetJN S B P M vt vm σ tr mk ρ a.erase b.erase w = Q
  have HQ : Hid (∀ e w', RetJN S B P M vt vm σ tr mk ρ a.erase b.erase w e w' → Q e w') := fun e w' h => by rw [← hQ]; exact h
  rw [show a.val = .agg #[.int .i64 a.k, .int .i64 a.n, .string a.s, .slice a.p a.l.length a.c] from rfl, show b.val = .agg #[.int .i64 b.k, .int .i64 b.n, .string b.s, .slice b.p b.l.length b.c] from rfl] at hjo ⊢
  have Hjo := Lib.hid hjo
  have Hvt := Lib.hid hvt
  rw [hvt] at hpb
  clear hs ho ia ib oa ob fa fb hQ hjo hvt
  go_enter Tryz.func42, Tryz.ntmps42
  try simp only [List.append_eq, List.cons_append, List.nil_append]
  go_upto_region 1 with fail
  obtain ⟨h4, h5, gA⟩ := two_blocks w (.int .i64 a.k) (.int .i64 a.n) (.string a.s) (.slice a.p a.l.length a.c) (.int .i64 b.k) (.int .i64 b.n) (.string b.s) (.slice b.p b.l.length b.c)
  generalize ((w.alloc (.cells #[.int .i64 a.k, .int .i64 a.n, .string a.s, .slice a.p a.l.length a.c] 24)).alloc (.cells #[.int .i64 b.k, .int .i64 b.n, .string b.s, .slice b.p b.l.length b.c] 24)) = wA at *
  obtain ⟨⟨x0, x1, x2, x3⟩, _, _⟩ := h4.out.parts
  obtain ⟨⟨y0, y1, y2, y3⟩, _, _⟩ := h5.out.parts
  have hpb2 := Gr.at gA hpb
  go_wp2_with fail
  refine (Hjo.out wA gA).mono ?_
  rintro e w1 ⟨r, vt1, σ1, ρ1, new, rfl, hj, h1, h2⟩
  have Hj := Lib.hid hj
  have H1 := Lib.hid h1
  have H2 := Lib.hid h2
  clear hj h1 h2 x0 x1 x2 x3 y0 y1 y2 y3 hpb hpb2
  cases r with
  | false =>
    have Hcut := Lib.hid (cut_calls Hj.out.sm Hj.out.fr Hj.out.ke)
    go_wp2_with fail
    refine Hcut.out.mono ?_
    rintro e w2 ⟨rfl, vt2, hsm, hkp, hob⟩
    have Hfin : Hid (RetJN S B P M vt vm σ tr mk ρ a.erase b.erase w (.returned (.bool false)) w2) := by
      refine ⟨false, vt2, vm, σ, ρ, tr, mk, rfl, hsm, HO.out, ?_, ?_, fun b hb _ => hb, (fun h => nomatch h), fun _ => ⟨rfl, rfl, rfl, rfl, fun θ ht he => nomatch (H2.out θ ht he).1⟩⟩
      · have k1 := Hj.out.kp
        refine ⟨hkp.os.trans (k1.os.trans gA.os), hkp.tape.trans (k1.tape.trans gA.tape), hkp.output.trans (k1.output.trans gA.output), Nat.le_trans gA.size (Nat.le_trans k1.size hkp.size), fun i hi hc => ?_⟩
        have hiA : i < wA.heap.size := Nat.lt_of_lt_of_le hi gA.size
        have hc1 : ¬ MutU P M vt i := fun h => hc (.inl h)
        refine (hkp.block i (Nat.lt_of_lt_of_le hiA k1.size) fun hm => hc1 (hm.imp id fun hm => hm.imp id fun hm => Hj.out.la i hm hiA)).trans ((k1.block i hiA hc1).trans (gA.block i hi))
      · intro b hb hlt
        rw [hob] at hb
        exact Hj.out.la b hb (Nat.lt_of_lt_of_le hlt gA.size)
    clear hsm hkp hob
    go_wp2_with fail
    exact HQ.out _ _ Hfin.out
  | true =>
    obtain ⟨pm, cm, hvm⟩ := own_form Hj.out.sm.mko
    have hpb3 := Hj.out.sm.blk.cell 2 (v := vm) rfl
    have hP1 := Hj.out.sm.blk
    have HP1 := Lib.hid hP1
    have Hmo := Lib.hid Hj.out.sm.mko
    have hbnd := Hj.out.sm.bnd
    have Hvm := Lib.hid hvm
    rw [hvm] at hpb3
    clear hP1 hvm
    go_upto_region 6 with (first
      | (refine wpList_append_int' rfl _ _ rfl rfl B vm mk (tr.length : Int) w1.heap.size 1 (by rw [Hvm.out]; rfl) (by rfl) (ownsRow_gr Hmo.out (by go_grown)) (by simp; omega) hmk ((BlkT.new w1 3 #[.int .i64 (tr.length : Int)]).cell 0 rfl) ?_
         intro v' w6 h2 h3 h4
         obtain ⟨pv, cv, rfl⟩ := own_form h2
         have k6 : Kp (fun b => vm.ownBlock = some b) w1 w6 := (Kp.of_gr (show Gr w1 _ by go_grown)).trans (Kp.of_grown h3 (fun r h => h))
         have hP6 := HP1.out.kp k6 Hj.out.sm.nm.1
         have q1 := hP6.cell 2 (v := vm) rfl
         have qf := hP6.open_ 2
         have H6 := Lib.hid h2
         have H4 := Lib.hid h4
         clear h2 h3 h4 hpb3 hP6)
      | fail)
    have hmk2 := SM.mark (mk' := mk ++ [(tr.length : Int)]) Hj.out.sm H6.out k6 (by
      rcases H4.out with h | h
      · exact .inl h
      · exact .inr ⟨_, h, by simp⟩)
    rw [show (mk ++ [(tr.length : Int)]).length = mk.length + 1 by simp] at hmk2 H4
    have Hmk2 := Lib.hid hmk2
    have Hfin : Hid (RetJN S B P M vt vm σ tr mk ρ a.erase b.erase w (.returned (.bool true)) (w6.setCell ⟨P, 2, none⟩ (.slice pv (mk.length + 1) cv))) := by
      refine ⟨true, vt1, _, σ1, ρ1, tr ++ new, _, rfl, Hmk2.out.1, Hj.out.ok, ?_, fun b hb hlt => Hj.out.la b hb (Nat.lt_of_lt_of_le hlt gA.size), fun b hb hlt => ?_, fun _ => ⟨Hj.out.th, H1.out (by trivial), fun θ ht he => (H2.out θ ht he).2, rfl, new, rfl, Hj.out.fr, Hj.out.ke⟩, (fun h => nomatch h)⟩
      · have k1 := Hj.out.kp
        have k2 := Hmk2.out.2
        refine ⟨k2.os.trans (k1.os.trans gA.os), k2.tape.trans (k1.tape.trans gA.tape), k2.output.trans (k1.output.trans gA.output), Nat.le_trans gA.size (Nat.le_trans k1.size k2.size), fun i hi hc => ?_⟩
        have hiA : i < wA.heap.size := Nat.lt_of_lt_of_le hi gA.size
        have hc1 : ¬ MutU P M vt i := fun h => hc (.inl h)
        refine (k2.block i (Nat.lt_of_lt_of_le hiA k1.size) fun hm => ?_).trans ((k1.block i hiA hc1).trans (gA.block i hi))
        rcases hm with hm | hm
        · exact hc1 (hm.imp id fun hm => hm.imp id fun hm => Hj.out.la i hm hiA)
        · exact hc (.inr hm)
      · rcases H4.out with h | h
        · rw [← h]; exact hb
        · rw [h] at hb
          cases hb
          have := gA.size
          have := Hj.out.kp.size
          simp at hlt
          omega
    clear hmk2 q1 qf
    go_wp2_with fail
    exact HQ.out _ _ Hfin.out
end Go.Proofs.YtjdoflfdlhpbmaaGreat

namespace Go.Proofs.YtjdoflfdlhpbmaaGreat
open Go.RowKit

/-- A function value that may be called of such variables. -/
def MapFnP (P : Int → Prop) (fv : Value) (S : Nat → Prop) (f : Int → T) (w0 : World) : Prop :=
  (∀ b, S b → b < w0.heap.size) ∧ ∃ (fid : FuncId) (cap : Array Value), fv = .func (.func fid) #[] cap ∧ (∀ (n : Int) (w : World), (callFunc fid (#[.int .i64 n] ++ cap)).run Tryz.prog w = .ok (.enter fid (#[.int .i64 n] ++ cap)) w) ∧
    ∀ (n : Int) (w : World), P n → Gr w0 w → In64 n → Calls Tryz.prog fid (#[.int .i64 n] ++ cap) w (RetTm (fun b => S b ∨ w.heap.size ≤ b) (f n) w)
theorem MapFnP.gr {P : Int → Prop} {fv : Value} {S : Nat → Prop} {f : Int → T} {w0 w1 : World} (h : MapFnP P fv S f w0) (hg : Gr w0 w1) : MapFnP P fv S f w1 := by
  obtain ⟨h0, fid, cap, h1, h2, h3⟩ := h
  exact ⟨fun b hb => Nat.lt_of_lt_of_le (h0 b hb) hg.size, fid, cap, h1, h2, fun n w hp hw hn => h3 n w hp (hg.trans hw) hn⟩

set_option maxHeartbeats 2000000 in
set_option maxRecDepth 100000 in
theorem map_varP (n : Int) (s : ByteArray) (p : Option Addr) (c : Nat) (l : List Tm) (fv : Value) (S : Nat → Prop) (f : Int → T) (w : World) (h : (Tm.mk 1 n s p c l).In w) (P : Int → Prop) (hPn : P n) (hf : MapFnP P fv S f w) :
    Calls Tryz.prog 49 #[(Tm.mk 1 n s p c l).val, fv] w (RetTm (fun b => S b ∨ w.heap.size ≤ b) (f n) w) := by
  rw [Tm.In] at h
  obtain ⟨hk, hn, hs, hlc, hc, hp, hIn⟩ := h
  clear hp hIn
  obtain ⟨hS, fid, cap, rfl, hq, hcall⟩ := hf
  have HS := Lib.hid hS
  clear hS
  have Hcall := Lib.hid hcall
  have Hn := Lib.hid hn
  have HPn := Lib.hid hPn
  clear hPn
  clear hcall
  simp only [Tm.val, Tm.k, Tm.n, Tm.s, Tm.p, Tm.c, Tm.l]
  go_enter Tryz.func49, Tryz.ntmps49
  go_wp2_with fail
  refine (Hcall.out n _ HPn.out (by go_grown) Hn.out).mono ?_
  rintro e w1 ⟨bm, hin, he, rfl, hb1, hon⟩
  obtain ⟨⟨y0, y1, y2, y3⟩, ⟨f0, f1, f2, f3⟩, hlt⟩ := (Blk4.gr (Blk4.new _ _ _ _ _) hb1).parts
  simp only [World.size_alloc] at y0 y1 y2 y3 f0 f1 f2 f3 hlt hon
  have g1 : Gr w w1 := below_step hb1 (by go_grown)
  have hs0 : w.heap.size + 1 < w1.heap.size := hlt
  have Hin := Lib.hid hin
  have Hon := Lib.hid hon
  have He := Lib.hid he
  clear hin hon he hb1
  obtain ⟨k', n', s', p', c', l'⟩ := bm
  simp only [Tm.val, Tm.k, Tm.n, Tm.s, Tm.p, Tm.c, Tm.l]
  go_wp2_with fail
  refine bodyPost_ret (v := (Tm.mk k' n' s' p' c' l').val) (by simp [results, Tryz.results49, go_sem, Tm.val, Tm.k, Tm.n, Tm.s, Tm.p, Tm.c, Tm.l, y0, y1, y2, y3]) rfl ⟨Tm.mk k' n' s' p' c' l', ?_, He.out, rfl, by go_grown, Hon.out.mono fun b hb => hb.imp id fun h => by omega⟩
  exact in_after' Hin.out Hon.out fun b h1 h2 o => by
    have : b ≠ w.heap.size + 1 := by rcases h1 with h1 | h1; · have := HS.out b h1; omega
                                     · omega
    rw [cell_set_ne this, cell_set_ne this, cell_set_ne this, cell_set_ne this]

set_option maxHeartbeats 4000000 in
set_option maxRecDepth 100000 in
theorem map_anyP (P : Int → Prop) (N : Nat) : ∀ (t : Tm) (fv : Value) (S : Nat → Prop) (f : Int → T) (w : World), SizeOf.sizeOf t ≤ N → t.In w → t.erase.formed = true → (∀ n, T.occ n t.erase → P n) → MapFnP P fv S f w →
    Calls Tryz.prog 49 #[t.val, fv] w (RetTm (fun b => S b ∨ w.heap.size ≤ b) (T.map f t.erase) w) := by
  induction N with
  | zero => intro t fv S f w h; cases t; simp at h
  | succ N ih =>
    intro t fv S f w hN h hfm hP hf
    obtain ⟨k, n, s, p, c, l⟩ := t
    by_cases hk1 : k = 1
    · subst hk1
      rw [Tm.erase, T.map, if_pos rfl]
      exact map_varP n s p c l fv S f w h P (hP n (by rw [Tm.erase, T.occ, if_pos rfl])) hf
    by_cases hk4 : k = 4
    · subst hk4
      obtain ⟨rfl, h100, hl1, hl50, hfl⟩ := formed_elem rfl hfm
      have hPl : ∀ x ∈ l, ∀ n, T.occ n x.erase → P n := fun x hx n hn => hP n (by
        rw [Tm.erase, T.occ, if_neg (by decide), if_pos rfl, T.occL_iff]
        obtain ⟨i, hi, rfl⟩ := List.getElem_of_mem hx
        exact ⟨l[i].erase, by rw [← eraseL_getElem l i hi]; exact List.getElem_mem _, hn⟩)
      have HPl := Lib.hid hPl
      clear hPl hP
      have hsz := fun x (hx : x ∈ l) => Tm.sizeOf_mem hx 4 0 s p c
      have HT := Lib.hid h
      have HSl := Lib.hid h.sl
      rw [Tm.In] at h
      obtain ⟨hk, hn, hs, hlc, hc, hp, hIn⟩ := h
      obtain ⟨b, o, rfl⟩ := HSl.out.ptr (by omega)
      have hbl : b < w.heap.size := Tm.row_lt (by rcases hp with rfl | ⟨b', o', he, hr⟩; · simp at hl1
                                                  · cases he; exact hr) (by rintro rfl; simp at hl1)
      obtain ⟨hS, fid, cap, rfl, hq, hcall⟩ := hf
      have HS := Lib.hid hS
      have Hf : Hid (MapFnP P (.func (.func fid) #[] cap) S f w) := ⟨hS, fid, cap, rfl, hq, hcall⟩
      have Hih := Lib.hid ih
      have Hsz := Lib.hid hsz
      have Hfl := Lib.hid hfl
      have Hs := Lib.hid hs
      clear hp hIn hcall hS hq ih hsz hfl hk hn hfm
      obtain ⟨i0, hi, hz0, hz1, hz2⟩ := info_parts infoTermM
      have Hi := Lib.hid hi
      clear hi
      rw [Tm.erase, T.map, if_neg (by decide), if_pos rfl]
      simp only [Tm.val, Tm.k, Tm.n, Tm.s, Tm.p, Tm.c, Tm.l]
      go_enter Tryz.func49, Tryz.ntmps49
      go_wp2_with
        (refine wpList_make_full _ rfl _ _ 22 rfl (w.heap.size) 24 i0 _ 4 Tryz.underlying22 Hi.out hz0 hz1 .i64 .i64 _ _ l.length rfl rfl rfl rfl (by rw [hz2]; omega) (by simp only [maxLen]; omega) (by simp; omega) ?_
         intro w1 hown hgrow
         have HF := fill_made (S := S) hown
         have HA := (after_make hgrow).2
         obtain ⟨⟨b0, b1, b2, b3⟩, _, _⟩ := (after_make hgrow).1.parts
         clear hown hgrow)
      obtain ⟨HB, HR, g1⟩ := HA.out
      replace HB := Lib.hid HB
      replace HR := Lib.hid HR
      have hg2 : w.heap.size + 1 + 1 < w1.heap.size := HF.out.lt
      clear b0 b1 b2 b3 HA
      go_loopw [25] (fun i wr => ∃ k : Nat, k ≤ l.length ∧ i = .int .i64 k ∧ Hid (∃ lm : List Tm, lm.length = k ∧ Tm.eraseL lm = T.mapL f (Tm.eraseL (l.take k)) ∧ Filling wr (w.heap.size + 1 + 1) S (w.heap.size + 1 + 1) l.length lm) ∧ Below (w.heap.size + 1 + 1) w1 wr)
        (fun i _ => l.length - (intOf i).toNat)
      case atStart => exact ⟨0, Nat.zero_le _, rfl, ⟨[], rfl, by simp [T.mapL, Tm.eraseL], HF.out⟩, Below.refl _ _⟩
      case round =>
        obtain ⟨k, hk, rfl, hlm, hb⟩ := hrel
        have hbs := hb.size
        have gr : Gr w wr := Below.trans g1 (hb.mono (by omega))
        have HB' : Hid _ := Lib.hid (HB.out.below hb (by omega))
        have HR' : Hid _ := Lib.hid (HR.out.below hb (by omega))
        by_cases hlt : k < l.length
        · obtain ⟨⟨c0, c1, c2, c3⟩, hx, _⟩ := (HSl.out.mono gr).elem k hlt
          have Hx := Lib.hid hx
          have hmem : l[k] ∈ l := List.getElem_mem hlt
          have Hz := Hsz.out _ hmem
          have Hfx := Lib.hid (Hfl.out _ hmem)
          have HPx := Lib.hid (HPl.out _ hmem)
          have Htk : Hid (T.mapL f (Tm.eraseL (l.take (k + 1))) = T.mapL f (Tm.eraseL (l.take k)) ++ [T.map f l[k].erase]) := T.mapL_erase f l k hlt
          clear hx hmem
          generalize hxe : l[k] = x at *
          go_wp2_with fail
          refine (Hih.out x _ S f _ (by omega) (Tm.In_below (by go_grown) Hx.out) Hfx.out HPx.out (Hf.out.gr (by go_grown))).mono ?_
          rintro e w2 ⟨xm, hin, he, rfl, hb2, hon⟩
          obtain ⟨lm, hl0, he0, hF⟩ := hlm.out
          have hF2 : Filling w2 (w.heap.size + 1 + 1) S (w.heap.size + 1 + 1) l.length lm := Filling.gr (w := wr) hF (below_step hb2 (by go_grown))
          have HF2 := Lib.hid hF2
          have g2 : Below (w.heap.size + 1 + 1) w1 w2 := Below.trans hb ((show Gr wr w2 from below_step hb2 (by go_grown)).mono (by omega))
          obtain ⟨⟨q0, r0⟩, fr0⟩ := hF2.spot (j := k * 4) (by omega)
          obtain ⟨⟨q1, r1⟩, fr1⟩ := hF2.spot (j := k * 4 + 1) (by omega)
          obtain ⟨⟨q2, r2⟩, fr2⟩ := hF2.spot (j := k * 4 + 2) (by omega)
          obtain ⟨⟨q3, r3⟩, fr3⟩ := hF2.spot (j := k * 4 + 3) (by omega)
          have hs2 := hb2.size
          simp only [World.size_alloc] at hs2 hon
          have Hl0 := Lib.hid hl0
          have He0 := Lib.hid he0
          have Hin := Lib.hid hin
          have Hon := Lib.hid hon
          have He := Lib.hid he
          clear hF hF2 hl0 he0 hin hon he hb2 hlm
          obtain ⟨k', n', s', p', c', l'⟩ := xm
          simp only [Tm.val, Tm.k, Tm.n, Tm.s, Tm.p, Tm.c, Tm.l]
          go_wp2_with fail
          go_roundw
          case rel =>
            refine ⟨k + 1, by omega, by go_num, ⟨lm ++ [.mk k' n' s' p' c' l'], by simp [Hl0.out], by rw [eraseL_append, He0.out, Htk.out]; simp [Tm.eraseL, He.out], ?_⟩, by go_grown⟩
            have := HF2.out.store (x := .mk k' n' s' p' c' l') (by rw [Hl0.out]; exact hlt) Hin.out (Hon.out.mono fun b hb => ?_)
            · rw [Hl0.out] at this
              simpa only [Tm.k, Tm.n, Tm.s, Tm.p, Tm.c, Tm.l] using this
            · rcases hb with hb | hb
              · exact ⟨.inl hb, by have := HS.out b hb; omega⟩
              · exact ⟨.inr (by omega), by omega⟩
          case measure => simp [intOf]; omega
        · obtain rfl : k = l.length := by omega
          obtain ⟨lm, hl0, he0, hF⟩ := hlm.out
          obtain ⟨⟨b0, b1, b2, b3⟩, ⟨e0, e1, e2, e3⟩, hbs1⟩ := HB'.out.parts
          obtain ⟨⟨y0, y1, y2, y3⟩, ⟨f0, f1, f2, f3⟩, hbs2⟩ := HR'.out.parts
          have HF := Lib.hid hF
          have Hl0 := Lib.hid hl0
          have He0 := Lib.hid he0
          clear hF hl0 he0 hlm
          go_wp2_with fail
          refine bodyPost_ret (v := (Tm.mk 4 0 s (some ⟨w.heap.size + 1 + 1, 0, none⟩) l.length lm).val) (by simp [results, Tryz.results49, go_sem, Tm.val, Tm.k, Tm.n, Tm.s, Tm.p, Tm.c, Tm.l, Hl0.out, y0, y1, y2, y3]) rfl ⟨_, ?_, ?_, rfl, by go_grown, ?_⟩
          · have hsl := HF.out.sl Hl0.out (by omega)
            have hin : (Tm.mk 4 0 s (some ⟨w.heap.size + 1 + 1, 0, none⟩) l.length lm).In wr := compTm_in Hs.out hsl.1
            have hon : (Tm.mk 4 0 s (some ⟨w.heap.size + 1 + 1, 0, none⟩) l.length lm).On (fun b => S b ∨ w.heap.size + 1 + 1 ≤ b) := by rw [Tm.On]; exact hsl.2
            exact in_after' hin hon fun b h1 h2 o => by
              have : b ≠ w.heap.size ∧ b ≠ w.heap.size + 1 := by
                rcases h1 with h1 | h1
                · have := HS.out b h1; omega
                · omega
              rw [cell_set_ne this.2, cell_set_ne this.2, cell_set_ne this.2, cell_set_ne this.2, cell_set_ne this.1]
          · rw [Tm.erase, He0.out, List.take_length]
          · have hsl := HF.out.sl Hl0.out (by omega)
            rw [Tm.On]
            exact ⟨hsl.2.1.imp id fun ⟨b, o, h1, h2⟩ => ⟨b, o, h1, h2.imp id fun h => by omega⟩, hsl.2.2.mono fun b hb => hb.imp id fun h => by omega⟩
    · rw [Tm.erase, T.map, if_neg hk1, if_neg hk4]
      exact (map_leaf k n s p c l fv w h hk1 hk4).mono fun e w' ⟨bm, h1, h2, h3, h4, h5⟩ => ⟨bm, h1, h2, h3, h4, h5.mono fun b hb => .inr hb⟩



theorem mapP_calls {P : Int → Prop} {t : Tm} {fv : Value} {S : Nat → Prop} {f : Int → T} {w : World} (h : t.In w) (hf : t.erase.formed = true) (hP : ∀ n, T.occ n t.erase → P n) (hm : MapFnP P fv S f w) :
    Calls Tryz.prog 49 #[t.val, fv] w (RetTm (fun b => S b ∨ w.heap.size ≤ b) (T.map f t.erase) w) := map_anyP P _ t fv S f w (Nat.le_refl _) h hf hP hm
end Go.Proofs.YtjdoflfdlhpbmaaGreat
