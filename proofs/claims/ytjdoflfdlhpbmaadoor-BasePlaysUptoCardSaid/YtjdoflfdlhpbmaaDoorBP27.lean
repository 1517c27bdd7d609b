/-
  Two bases side by side: what is done to one leaves the other as it is.
  A base and two views: what is done to the base leaves the views as they are; one view leaves the other.
  hornlaw.BasePlays: a base, the document's base and a list of views in memory.
  hornlaw.BasePlays: what was told is taken from a view's list; a view is put behind the others.
-/
import Derived.Test.YtjdoflfdlhpbmaaDoorBP15
import Derived.Test.YtjdoflfdlhpbmaaDoorBP26
import Derived.Test.YtjdoflfdlhpbmaaDoorBP16
import Derived.Test.YtjdoflfdlhpbmaaDoorBP17
import Derived.Test.YtjdoflfdlhpbmaaDoorBP25
namespace Go.Proofs.YtjdoflfdlhpbmaaDoor
open Go.RowKit Go.Maps Go.Lib

/-- The blocks that neither base writes to. -/
def TwoS (w : World) (B M1 M2 : Nat) (va : Value) (U N1 N2 : Nat) (vu : Value) : Nat → Prop := fun x => x < w.heap.size ∧ ¬ Mut B M1 M2 va x ∧ ¬ Mut U N1 N2 vu x

structure Two (lo : Nat) (w : World) (B M1 M2 : Nat) (va : Value) (st : BSt) (U N1 N2 : Nat) (vu : Value) (su : BSt) : Prop where
  b : BaseG (TwoS w B M1 M2 va U N1 N2 vu) w B M1 M2 va st
  u : BaseG (TwoS w B M1 M2 va U N1 N2 vu) w U N1 N2 vu su
  dis : ∀ x, Mut B M1 M2 va x → ¬ Mut U N1 N2 vu x
  lob : ∀ x, Mut B M1 M2 va x → lo ≤ x
  lou : ∀ x, Mut U N1 N2 vu x → lo ≤ x

section
variable {lo : Nat} {w w' : World} {B M1 M2 : Nat} {va va' : Value} {st st' : BSt} {U N1 N2 : Nat} {vu : Value} {su : BSt}
theorem Two.symm (h : Two lo w B M1 M2 va st U N1 N2 vu su) : Two lo w U N1 N2 vu su B M1 M2 va st :=
  ⟨h.u.mono (fun _ hx _ => ⟨hx.1, hx.2.2, hx.2.1⟩) fun _ hx => hx.2.1, h.b.mono (fun _ hx _ => ⟨hx.1, hx.2.2, hx.2.1⟩) fun _ hx => hx.2.2, fun x h1 h2 => h.dis x h2 h1, h.lou, h.lob⟩
theorem Two.kp {C : Nat → Prop} (h : Two lo w B M1 M2 va st U N1 N2 vu su) (hk : Kp C w w') (hb : ∀ x, Mut B M1 M2 va x → ¬ C x) (hu : ∀ x, Mut U N1 N2 vu x → ¬ C x) (hS : ∀ x, TwoS w B M1 M2 va U N1 N2 vu x → ¬ C x) : Two lo w' B M1 M2 va st U N1 N2 vu su :=
  ⟨(h.b.kp hk hb hS).mono (fun _ hx _ => ⟨Nat.lt_of_lt_of_le hx.1 hk.size, hx.2⟩) fun _ hx => hx.2.1, (h.u.kp hk hu hS).mono (fun _ hx _ => ⟨Nat.lt_of_lt_of_le hx.1 hk.size, hx.2⟩) fun _ hx => hx.2.2, h.dis, h.lob, h.lou⟩
theorem Two.gr (h : Two lo w B M1 M2 va st U N1 N2 vu su) (hg : Gr w w') : Two lo w' B M1 M2 va st U N1 N2 vu su := h.kp (C := fun _ => False) (Kp.of_gr hg) (fun _ _ h => h) (fun _ _ h => h) fun _ _ h => h
theorem Two.step (h : Two lo w B M1 M2 va st U N1 N2 vu su) (hl : lo ≤ w.heap.size) (hB : BaseG (fun x => TwoS w B M1 M2 va U N1 N2 vu x ∨ (w.heap.size ≤ x ∧ va'.ownBlock ≠ some x)) w' B M1 M2 va' st') (hk : Kp (Mut B M1 M2 va) w w')
    (ho : va'.ownBlock = va.ownBlock ∨ ∃ g, va'.ownBlock = some g ∧ w.heap.size ≤ g) : Two lo w' B M1 M2 va' st' U N1 N2 vu su := by
  have hsz := hk.size
  have hlt := h.b.lt
  have hut := h.u.lt
  have hnew : ∀ x, x < w.heap.size → ¬ Mut B M1 M2 va x → ¬ Mut B M1 M2 va' x := fun x hx hn hm => hn (by
    rcases hm with hm | hm | hm | hm
    · exact .inl hm
    · exact .inr (.inl hm)
    · exact .inr (.inr (.inl hm))
    · rcases ho with e | ⟨g, e, hg⟩
      · exact .inr (.inr (.inr (by rw [← e]; exact hm)))
      · rw [e] at hm; cases hm; omega)
  refine ⟨hB.mono (fun x hx hlx => ?_) fun _ hx => hx.2.1, ?_, fun x hm hu => ?_, fun x hm => ?_, h.lou⟩
  · rcases hx with hx | ⟨hx, hx2⟩
    · exact ⟨hlx, hnew x hx.1 hx.2.1, hx.2.2⟩
    · refine ⟨hlx, fun hm => ?_, fun hm => ?_⟩
      · rcases hm with hm | hm | hm | hm
        · have := hlt x (.inl hm); omega
        · have := hlt x (.inr (.inl hm)); omega
        · have := hlt x (.inr (.inr (.inl hm))); omega
        · exact hx2 hm
      · have := hut x hm; omega
  · exact (h.u.kp hk (fun x hx hm => h.dis x hm hx) fun x hx => hx.2.1).mono (fun x hx hlx => ⟨hlx, hnew x hx.1 hx.2.1, hx.2.2⟩) fun _ hx => hx.2.2
  · have hxu := hut x hu
    rcases hm with hm | hm | hm | hm
    · exact h.dis x (.inl hm) hu
    · exact h.dis x (.inr (.inl hm)) hu
    · exact h.dis x (.inr (.inr (.inl hm))) hu
    · rcases ho with e | ⟨g, e, hg⟩
      · exact h.dis x (.inr (.inr (.inr (by rw [← e]; exact hm)))) hu
      · rw [e] at hm; cases hm; omega
  · rcases hm with hm | hm | hm | hm
    · exact h.lob x (.inl hm)
    · exact h.lob x (.inr (.inl hm))
    · exact h.lob x (.inr (.inr (.inl hm)))
    · rcases ho with e | ⟨g, e, hg⟩
      · exact h.lob x (.inr (.inr (.inr (by rw [← e]; exact hm))))
      · rw [e] at hm; cases hm; omega
theorem Two.hS (_ : Two lo w B M1 M2 va st U N1 N2 vu su) : ∀ x, TwoS w B M1 M2 va U N1 N2 vu x → x < w.heap.size := fun _ h => h.1
end

end Go.Proofs.YtjdoflfdlhpbmaaDoor

namespace Go.Proofs.YtjdoflfdlhpbmaaDoor
open Go.RowKit Go.Maps Go.Lib

/-- A base and two views. -/
structure Ph (lo : Nat) (w : World) (B M1 M2 : Nat) (va : Value) (st : BSt) (V U : Nat) (Sv : Nat → Prop) (p : Option Addr) (c : Nat) (L : List Hd) (G : Tm) (p' : Option Addr) (c' : Nat) (L' : List Hd) (G' : Tm) : Prop where
  b : BaseG (fun x => x < w.heap.size ∧ ¬ Mut B M1 M2 va x ∧ x ≠ V ∧ x ≠ U) w B M1 M2 va st
  v : BlkT w V 130 (viewCells p L.length c G)
  u : BlkT w U 130 (viewCells p' L'.length c' G')
  lv : HSl Sv w p c L
  lu : HSl Sv w p' c' L'
  gv : G.In w ∧ G.On Sv
  gu : G'.In w ∧ G'.On Sv
  sv : ∀ x, Sv x → x < w.heap.size ∧ ¬ Mut B M1 M2 va x ∧ x ≠ V ∧ x ≠ U
  vu : V ≠ U
  vb : ¬ Mut B M1 M2 va V
  ub : ¬ Mut B M1 M2 va U
  lov : lo ≤ V
  lou : lo ≤ U
  lob : ∀ x, Mut B M1 M2 va x → lo ≤ x

section
variable {lo : Nat} {w w' : World} {B M1 M2 : Nat} {va va' : Value} {st st' : BSt} {V U : Nat} {Sv : Nat → Prop} {p p' : Option Addr} {c c' : Nat} {L L' : List Hd} {G G' : Tm}
theorem Ph.symm (h : Ph lo w B M1 M2 va st V U Sv p c L G p' c' L' G') : Ph lo w B M1 M2 va st U V Sv p' c' L' G' p c L G :=
  ⟨h.b.mono (fun _ hx _ => ⟨hx.1, hx.2.1, hx.2.2.2, hx.2.2.1⟩) fun _ hx => hx.2.1, h.u, h.v, h.lu, h.lv, h.gu, h.gv, fun x hx => ⟨(h.sv x hx).1, (h.sv x hx).2.1, (h.sv x hx).2.2.2, (h.sv x hx).2.2.1⟩, Ne.symm h.vu, h.ub, h.vb, h.lou, h.lov, h.lob⟩
theorem Ph.gr (h : Ph lo w B M1 M2 va st V U Sv p c L G p' c' L' G') (hg : Gr w w') : Ph lo w' B M1 M2 va st V U Sv p c L G p' c' L' G' :=
  ⟨(h.b.gr hg).mono (fun _ hx _ => ⟨Nat.lt_of_lt_of_le hx.1 hg.size, hx.2⟩) fun _ hx => hx.2.1, h.v.gr hg, h.u.gr hg, h.lv.gr hg, h.lu.gr hg, ⟨Tm.In_below hg h.gv.1, h.gv.2⟩, ⟨Tm.In_below hg h.gu.1, h.gu.2⟩, fun x hx => ⟨Nat.lt_of_lt_of_le (h.sv x hx).1 hg.size, (h.sv x hx).2⟩, h.vu, h.vb, h.ub, h.lov, h.lou, h.lob⟩
theorem Ph.step (h : Ph lo w B M1 M2 va st V U Sv p c L G p' c' L' G') (hl : lo ≤ w.heap.size) (hB : BaseG (fun x => (x < w.heap.size ∧ ¬ Mut B M1 M2 va x ∧ x ≠ V ∧ x ≠ U) ∨ (w.heap.size ≤ x ∧ va'.ownBlock ≠ some x)) w' B M1 M2 va' st') (hk : Kp (Mut B M1 M2 va) w w')
    (ho : va'.ownBlock = va.ownBlock ∨ ∃ g, va'.ownBlock = some g ∧ w.heap.size ≤ g) : Ph lo w' B M1 M2 va' st' V U Sv p c L G p' c' L' G' := by
  have hsz := hk.size
  have hlt := h.b.lt
  have hV := h.v.lt
  have hU := h.u.lt
  have hnew : ∀ x, x < w.heap.size → ¬ Mut B M1 M2 va x → ¬ Mut B M1 M2 va' x := fun x hx hn hm => hn (by
    rcases hm with hm | hm | hm | hm
    · exact .inl hm
    · exact .inr (.inl hm)
    · exact .inr (.inr (.inl hm))
    · rcases ho with e | ⟨g, e, hg⟩
      · exact .inr (.inr (.inr (by rw [← e]; exact hm)))
      · rw [e] at hm; cases hm; omega)
  have hSv : ∀ x, Sv x → ¬ Mut B M1 M2 va x := fun x hx => (h.sv x hx).2.1
  refine ⟨hB.mono (fun x hx hlx => ?_) fun _ hx => hx.2.1, h.v.kp hk h.vb, h.u.kp hk h.ub, h.lv.kp hk hSv, h.lu.kp hk hSv, ⟨tm_kp h.gv.1 h.gv.2 hSv hk, h.gv.2⟩, ⟨tm_kp h.gu.1 h.gu.2 hSv hk, h.gu.2⟩,
    fun x hx => ⟨Nat.lt_of_lt_of_le (h.sv x hx).1 hsz, hnew x (h.sv x hx).1 (h.sv x hx).2.1, (h.sv x hx).2.2⟩, h.vu, hnew V hV h.vb, hnew U hU h.ub, h.lov, h.lou, fun x hm => ?_⟩
  · rcases hx with hx | ⟨hx, hx2⟩
    · exact ⟨hlx, hnew x hx.1 hx.2.1, hx.2.2⟩
    · refine ⟨hlx, fun hm => ?_, by omega, by omega⟩
      rcases hm with hm | hm | hm | hm
      · have := hlt x (.inl hm); omega
      · have := hlt x (.inr (.inl hm)); omega
      · have := hlt x (.inr (.inr (.inl hm))); omega
      · exact hx2 hm
  · rcases hm with hm | hm | hm | hm
    · exact h.lob x (.inl hm)
    · exact h.lob x (.inr (.inl hm))
    · exact h.lob x (.inr (.inr (.inl hm)))
    · rcases ho with e | ⟨g, e, hg⟩
      · exact h.lob x (.inr (.inr (.inr (by rw [← e]; exact hm))))
      · rw [e] at hm; cases hm; omega
/-- One view tells its next. -/
theorem Ph.next (h : Ph lo w B M1 M2 va st V U Sv p c L G p' c' L' G') {r : Option (HdT × List HdT)} {e : Ending} (hr : RetNext Sv V G r w e w') : ∃ (p1 : Option Addr) (c1 : Nat) (L1 : List Hd), Ph lo w' B M1 M2 va st V U Sv p1 c1 L1 G p' c' L' G' ∧ L1.map Hd.er = restOf r ∧ Kp (fun x => x = V) w w' ∧
    match r with
    | none => e = .returned (.tuple #[.int .i64 0, clVal zeroTm zeroTm, .bool false])
    | some (x, _) => ∃ h b : Tm, e = .returned (.tuple #[.int .i64 x.i, clVal h b, .bool true]) ∧ h.In w' ∧ b.In w' ∧ h.erase = x.h ∧ b.erase = x.b ∧ h.On (w.heap.size ≤ ·) ∧ b.On (w.heap.size ≤ ·) := by
  obtain ⟨L1, p1, c1, hb, hl, hk, hres⟩ := hr
  have hsz := hk.size
  have hC : ∀ x, Sv x → ¬ x = V := fun x hx => (h.sv x hx).2.2.1
  refine ⟨p1, c1, L1, ⟨(h.b.kp hk (fun x hm e => h.vb (e ▸ hm)) fun x hx => hx.2.2.1).mono (fun x hx _ => ⟨Nat.lt_of_lt_of_le hx.1 hsz, hx.2⟩) fun _ hx => hx.2.1, hb, h.u.kp hk (Ne.symm h.vu), hl, h.lu.kp hk hC, ⟨tm_kp h.gv.1 h.gv.2 hC hk, h.gv.2⟩, ⟨tm_kp h.gu.1 h.gu.2 hC hk, h.gu.2⟩,
    fun x hx => ⟨Nat.lt_of_lt_of_le (h.sv x hx).1 hsz, (h.sv x hx).2⟩, h.vu, h.vb, h.ub, h.lov, h.lou, h.lob⟩, ?_, hk, ?_⟩
  · cases r with
    | none => rw [hres.1]; rfl
    | some x => exact hres.1
  · cases r with
    | none => exact hres.2
    | some x => exact hres.2
/-- Of two bases: the first, and a view of each. -/
theorem Ph.make {U' N1 N2 : Nat} {vu : Value} {su : BSt} {w5 w6 : World} (h : Two lo w B M1 M2 va st U' N1 N2 vu su) (hl : lo ≤ w.heap.size) (g5 : Gr w w5) (g6 : Gr w5 w6)
    (hV : BlkT w5 V 130 (viewCells p L.length c G)) (hL : HSl (TwoS w B M1 M2 va U' N1 N2 vu) w5 p c L) (hG : G.In w5) (oG : G.On (fun x => w.heap.size ≤ x ∧ x ≠ V)) (nV : w.heap.size ≤ V)
    (hU : BlkT w6 U 130 (viewCells p' L'.length c' G')) (hL' : HSl (TwoS w B M1 M2 va U' N1 N2 vu) w6 p' c' L') (hG' : G'.In w6) (oG' : G'.On (fun x => w5.heap.size ≤ x ∧ x ≠ U)) (nU : w5.heap.size ≤ U) :
    Ph lo w6 B M1 M2 va st V U (fun x => x < w6.heap.size ∧ ¬ Mut B M1 M2 va x ∧ x ≠ V ∧ x ≠ U) p c L G p' c' L' G' := by
  have hs5 := g5.size
  have hs6 := g6.size
  have hlt := h.b.lt
  have hVl := hV.lt
  have hUl := hU.lt
  have hnm : ∀ x, w.heap.size ≤ x → ¬ Mut B M1 M2 va x := fun x hx hm => by have := hlt x hm; omega
  have hS : ∀ x, TwoS w B M1 M2 va U' N1 N2 vu x → x < w6.heap.size ∧ ¬ Mut B M1 M2 va x ∧ x ≠ V ∧ x ≠ U := fun x hx => ⟨by have := hx.1; omega, hx.2.1, by have := hx.1; omega, by have := hx.1; omega⟩
  exact ⟨(h.b.gr (g5.trans g6)).mono (fun x hx _ => hS x hx) fun _ hx => hx.2.1, hV.gr g6, hU, (hL.gr g6).mono fun x hx _ => hS x hx, hL'.mono fun x hx _ => hS x hx,
    ⟨Tm.In_below g6 hG, (Tm.On.and oG hG.on).mono fun x hx => ⟨by have := hx.2; omega, hnm x hx.1.1, hx.1.2, by have := hx.2; omega⟩⟩,
    ⟨hG', (Tm.On.and oG' hG'.on).mono fun x hx => ⟨hx.2, hnm x (by have := hx.1.1; omega), by have := hx.1.1; omega, hx.1.2⟩⟩,
    fun _ hx => hx, by omega, hnm V nV, hnm U (by omega), by omega, by omega, h.lob⟩
end
end Go.Proofs.YtjdoflfdlhpbmaaDoor

namespace Go.Proofs.YtjdoflfdlhpbmaaDoor
open Go.RowKit Go.Maps Go.Lib

/-- A view and what it must tell. -/
structure Vw where
  V : Nat
  p : Option Addr
  c : Nat
  M : List Hd
  G : Tm
  q : Option Addr
  d : Nat
  N : List Hr
def Vw.cells (y : Vw) : List Value := [.pointer (some ⟨y.V, 0, none⟩), .slice y.q y.N.length y.d]
structure PlaySt where
  B : Nat
  M1 : Nat
  M2 : Nat
  va : Value
  st : BSt
  R : Nat
  rp : Option Addr
  rc : Nat
  RL : List Hr
  X : Nat
  vv : Value
  vs : List Vw
/-- What the law writes to. -/
def PlaySt.D (s : PlaySt) : Nat → Prop := fun b => Mut s.B s.M1 s.M2 s.va b ∨ b = s.R ∨ b = s.X ∨ s.vv.ownBlock = some b ∨ b ∈ s.vs.map Vw.V
def PlS (w : World) (D : Nat → Prop) : Nat → Prop := fun x => x < w.heap.size ∧ ¬ D x
structure VwOk (S : Nat → Prop) (w : World) (y : Vw) : Prop where
  v : BlkT w y.V 130 (viewCells y.p y.M.length y.c y.G)
  m : HSl S w y.p y.c y.M
  g : y.G.In w
  go : y.G.On S
  n : HrSl S w y.q y.d y.N
/-- The two tell the same. -/
structure VwAg (y : Vw) : Prop where
  e : eOk y.G.erase (y.M.map Hd.er)
  f : (y.M.map Hd.er).filter (fun x => letsT y.G.erase x.h) = (y.N.map Hr.er).map HrT.d
structure PlM (lo : Nat) (w : World) (s : PlaySt) : Prop where
  b : BaseG (PlS w s.D) w s.B s.M1 s.M2 s.va s.st
  r : BlkT w s.R 27 #[.slice s.rp s.RL.length s.rc]
  rl : HrSl (PlS w s.D) w s.rp s.rc s.RL
  x : BlkT w s.X 28 #[s.vv]
  o : w.ownsRow lo 71 2 s.vv s.vs.length (s.vs.flatMap Vw.cells)
  each : ∀ y ∈ s.vs, VwOk (PlS w s.D) w y
  rm : ¬ Mut s.B s.M1 s.M2 s.va s.R
  xm : ¬ Mut s.B s.M1 s.M2 s.va s.X
  rx : s.R ≠ s.X
  ov : ∀ b, s.vv.ownBlock = some b → ¬ Mut s.B s.M1 s.M2 s.va b ∧ b ≠ s.R ∧ b ≠ s.X
  v1 : ∀ b ∈ s.vs.map Vw.V, ¬ Mut s.B s.M1 s.M2 s.va b ∧ b ≠ s.R ∧ b ≠ s.X ∧ s.vv.ownBlock ≠ some b
  v2 : (s.vs.map Vw.V).Nodup
  low : ∀ b, s.D b → lo ≤ b
  lt : ∀ b, s.D b → b < w.heap.size
  lw : lo ≤ w.heap.size

section
variable {lo : Nat} {w w' : World} {s : PlaySt}
theorem pl_tr {C D D' : Nat → Prop} (hk : Kp C w w') (hC : ∀ b, C b → D b ∨ w.heap.size ≤ b) (hD : ∀ b, D' b → D b ∨ w.heap.size ≤ b) : (∀ b, PlS w D b → ¬ C b) ∧ ∀ b, PlS w D b → PlS w' D' b := by
  refine ⟨fun b h hc => ?_, fun b h => ⟨Nat.lt_of_lt_of_le h.1 hk.size, fun hd => ?_⟩⟩
  · rcases hC b hc with h1 | h1
    · exact h.2 h1
    · have := h.1; omega
  · rcases hD b hd with h1 | h1
    · exact h.2 h1
    · have := h.1; omega
theorem VwOk.tr {C S S' : Nat → Prop} {y : Vw} (h : VwOk S w y) (hk : Kp C w w') (hv : ¬ C y.V) (h1 : ∀ b, S b → ¬ C b) (h2 : ∀ b, S b → S' b) : VwOk S' w' y :=
  ⟨h.v.kp hk hv, (h.m.kp hk h1).mono fun b hb _ => h2 b hb, tm_kp h.g h.go h1 hk, h.go.mono h2, (h.n.kp hk h1).mono fun b hb _ => h2 b hb⟩
theorem PlM.ndR (h : PlM lo w s) : s.R < w.heap.size := h.lt _ (.inr (.inl rfl))
theorem PlM.ndX (h : PlM lo w s) : s.X < w.heap.size := h.lt _ (.inr (.inr (.inl rfl)))
theorem PlM.gr (h : PlM lo w s) (hg : Gr w w') : PlM lo w' s := by
  have hk : Kp (fun _ => False) w w' := Kp.of_gr hg
  obtain ⟨t1, t2⟩ := pl_tr (D := s.D) (D' := s.D) hk (fun b hb => hb.elim) (fun b hb => .inl hb)
  exact ⟨(h.b.gr hg).mono (fun b hb _ => t2 b hb) fun b hb hm => hb.2 (.inl hm), h.r.gr hg, (h.rl.gr hg).mono fun b hb _ => t2 b hb, h.x.gr hg, ownsRow_gr h.o hg, fun y hy => (h.each y hy).tr hk (fun h => h) t1 t2,
    h.rm, h.xm, h.rx, h.ov, h.v1, h.v2, h.low, fun b hb => Nat.lt_of_lt_of_le (h.lt b hb) hg.size, Nat.le_trans h.lw hg.size⟩
/-- Something is done to the base. -/
theorem PlM.base (h : PlM lo w s) {va' : Value} {st' : BSt} (hB : BaseG (fun x => PlS w s.D x ∨ (w.heap.size ≤ x ∧ va'.ownBlock ≠ some x)) w' s.B s.M1 s.M2 va' st') (hk : Kp (Mut s.B s.M1 s.M2 s.va) w w')
    (ho : va'.ownBlock = s.va.ownBlock ∨ ∃ g, va'.ownBlock = some g ∧ w.heap.size ≤ g) : PlM lo w' { s with va := va', st := st' } := by
  have hM : ∀ b, Mut s.B s.M1 s.M2 va' b → Mut s.B s.M1 s.M2 s.va b ∨ w.heap.size ≤ b := fun b hb => by
    rcases hb with hb | hb | hb | hb
    · exact .inl (.inl hb)
    · exact .inl (.inr (.inl hb))
    · exact .inl (.inr (.inr (.inl hb)))
    · rcases ho with e | ⟨g, e, hg⟩
      · exact .inl (.inr (.inr (.inr (by rw [← e]; exact hb))))
      · rw [e] at hb; cases hb; exact .inr hg
  have hn : ∀ b, b < w.heap.size → ¬ Mut s.B s.M1 s.M2 s.va b → ¬ Mut s.B s.M1 s.M2 va' b := fun b h1 h2 h3 => by
    rcases hM b h3 with h4 | h4
    · exact h2 h4
    · omega
  have hD : ∀ b, PlaySt.D { s with va := va', st := st' } b → s.D b ∨ w.heap.size ≤ b := fun b hb => by
    rcases hb with hb | hb
    · exact (hM b hb).imp .inl id
    · exact .inl (.inr hb)
  obtain ⟨t1, t2⟩ := pl_tr (D := s.D) hk (fun b hb => .inl (.inl hb)) hD
  have ovl : ∀ b, s.vv.ownBlock = some b → b < w.heap.size := fun b hb => h.lt b (.inr (.inr (.inr (.inl hb))))
  have vl : ∀ b ∈ s.vs.map Vw.V, b < w.heap.size := fun b hb => h.lt b (.inr (.inr (.inr (.inr hb))))
  have hBl := h.b.lt
  refine ⟨hB.mono (fun x hx hxl => ?_) fun b hb hm => hb.2 (.inl hm), h.r.kp hk h.rm, (h.rl.kp hk t1).mono fun b hb _ => t2 b hb, h.x.kp hk h.xm, ownsRow_kpv h.o hk fun b hb => (h.ov b hb).1, fun y hy => (h.each y hy).tr hk (h.v1 y.V (List.mem_map.2 ⟨y, hy, rfl⟩)).1 t1 t2,
    hn _ h.ndR h.rm, hn _ h.ndX h.xm, h.rx, fun b hb => ⟨hn b (ovl b hb) (h.ov b hb).1, (h.ov b hb).2⟩, fun b hb => ⟨hn b (vl b hb) (h.v1 b hb).1, (h.v1 b hb).2⟩, h.v2, fun b hb => ?_, fun b hb => ?_, Nat.le_trans h.lw hk.size⟩
  · rcases hx with hx | ⟨hx, hx2⟩
    · exact t2 x hx
    · refine ⟨hxl, fun hd => ?_⟩
      rcases hd with hd | hd
      · rcases hd with hd | hd | hd | hd
        · have := hBl x (.inl hd); omega
        · have := hBl x (.inr (.inl hd)); omega
        · have := hBl x (.inr (.inr (.inl hd))); omega
        · exact hx2 hd
      · have := h.lt x (.inr hd); omega
  · rcases hD b hb with h1 | h1
    · exact h.low b h1
    · have := h.lw; omega
  · rcases hb with hb | hb
    · exact hB.lt b hb
    · exact Nat.lt_of_lt_of_le (h.lt b (.inr hb)) hk.size
/-- Something is done to the document's base. -/
theorem PlM.ref (h : PlM lo w s) {p' : Option Addr} {c' : Nat} {L' : List Hr} (hR : RefG (fun x => PlS w s.D x ∨ w.heap.size ≤ x) w' s.R p' c' L') (hk : Kp (fun x => x = s.R) w w') : PlM lo w' { s with rp := p', rc := c', RL := L' } := by
  obtain ⟨t1, t2⟩ := pl_tr (D := s.D) (D' := s.D) hk (fun b (hb : b = s.R) => .inl (.inr (.inl hb))) (fun b hb => .inl hb)
  have mr : ∀ b, Mut s.B s.M1 s.M2 s.va b → ¬ b = s.R := fun b hb e => h.rm (e ▸ hb)
  exact ⟨(h.b.kp hk mr t1).mono (fun b hb _ => t2 b hb) fun b hb hm => hb.2 (.inl hm), hR.blk, hR.sl.mono fun b hb hbl => hb.elim (t2 b) fun hb => ⟨hbl, fun hd => by have := h.lt b hd; omega⟩,
    h.x.kp hk (fun e => h.rx e.symm), ownsRow_kpv h.o hk fun b hb => (h.ov b hb).2.1, fun y hy => (h.each y hy).tr hk (h.v1 y.V (List.mem_map.2 ⟨y, hy, rfl⟩)).2.1 t1 t2,
    h.rm, h.xm, h.rx, h.ov, h.v1, h.v2, h.low, fun b hb => Nat.lt_of_lt_of_le (h.lt b hb) hk.size, Nat.le_trans h.lw hk.size⟩
theorem flat_set {f : Vw → List Value} : ∀ (l : List Vw) (k : Nat) (hk : k < l.length) (y : Vw), f y = f l[k] → (l.set k y).flatMap f = l.flatMap f
  | x :: xs, 0, _, y, h => by simp only [List.set_cons_zero, List.flatMap_cons]; rw [h]; rfl
  | x :: xs, k + 1, hk, y, h => by
    simp only [List.set_cons_succ, List.flatMap_cons]
    rw [flat_set xs k (by simpa using hk) y (by simpa using h)]
theorem map_set_same {f : Vw → Nat} (l : List Vw) (k : Nat) (hk : k < l.length) (y : Vw) (h : f y = f l[k]) : (l.set k y).map f = l.map f := by
  rw [List.map_set, h, ← List.getElem_map (f := f) (h := by simpa using hk), List.set_getElem_self]
/-- A view that is taken up: it is not another's. -/
theorem PlM.other (h : PlM lo w s) {k : Nat} (hk : k < s.vs.length) {y y' : Vw} (hy : y ∈ s.vs.set k y') : y = y' ∨ (y ∈ s.vs ∧ y.V ≠ s.vs[k].V) := by
  obtain ⟨j, hj, rfl⟩ := List.getElem_of_mem hy
  rw [List.length_set] at hj
  rw [List.getElem_set]
  by_cases e : k = j
  · rw [if_pos e]; exact .inl rfl
  · rw [if_neg e]
    refine .inr ⟨List.getElem_mem hj, fun hv => e ?_⟩
    have h1 : (s.vs.map Vw.V)[j]? = (s.vs.map Vw.V)[k]? := by rw [List.getElem?_map, List.getElem?_map, List.getElem?_eq_getElem hj, List.getElem?_eq_getElem hk, Option.map_some, Option.map_some, hv]
    exact ((List.getElem?_inj (by simpa using hj) h.v2).1 h1).symm
/-- A view tells its next. -/
theorem PlM.next (h : PlM lo w s) {k : Nat} (hk : k < s.vs.length) {p' : Option Addr} {c' : Nat} {L' : List Hd} (hb : BlkT w' s.vs[k].V 130 (viewCells p' L'.length c' s.vs[k].G)) (hl : HSl (PlS w s.D) w' p' c' L') (hkp : Kp (fun x => x = s.vs[k].V) w w') :
    PlM lo w' { s with vs := s.vs.set k { s.vs[k] with p := p', c := c', M := L' } } := by
  have hm : s.vs[k] ∈ s.vs := List.getElem_mem hk
  have hVm : s.vs[k].V ∈ s.vs.map Vw.V := List.mem_map.2 ⟨_, hm, rfl⟩
  have hmap : (s.vs.set k { s.vs[k] with p := p', c := c', M := L' }).map Vw.V = s.vs.map Vw.V := map_set_same s.vs k hk _ rfl
  have hflat : (s.vs.set k { s.vs[k] with p := p', c := c', M := L' }).flatMap Vw.cells = s.vs.flatMap Vw.cells := flat_set s.vs k hk _ rfl
  have hDD : ∀ b, PlaySt.D { s with vs := s.vs.set k { s.vs[k] with p := p', c := c', M := L' } } b ↔ s.D b := fun b => by unfold PlaySt.D; simp only; rw [hmap]
  obtain ⟨t1, t2⟩ := pl_tr (D := s.D) (D' := PlaySt.D { s with vs := s.vs.set k { s.vs[k] with p := p', c := c', M := L' } }) hkp (fun b (hb : b = _) => .inl (.inr (.inr (.inr (.inr (hb ▸ hVm)))))) (fun b hb => .inl ((hDD b).1 hb))
  obtain ⟨n1, n2, n3, n4⟩ := h.v1 _ hVm
  refine ⟨(h.b.kp hkp (fun b hb e => n1 (e ▸ hb)) t1).mono (fun b hb _ => t2 b hb) fun b hb hm => hb.2 (.inl hm), h.r.kp hkp (Ne.symm n2), (h.rl.kp hkp t1).mono fun b hb _ => t2 b hb, h.x.kp hkp (Ne.symm n3), ?_, fun y hy => ?_, h.rm, h.xm, h.rx, h.ov, ?_, ?_, fun b hb => h.low b ((hDD b).1 hb), fun b hb => Nat.lt_of_lt_of_le (h.lt b ((hDD b).1 hb)) hkp.size, Nat.le_trans h.lw hkp.size⟩
  · simp only
    rw [List.length_set, hflat]
    exact ownsRow_kpv h.o hkp fun b hb e => n4 (by rw [hb, e])
  · rcases h.other hk hy with rfl | ⟨hy, hv⟩
    · have h0 := h.each _ hm
      exact ⟨hb, hl.mono fun b hb _ => t2 b hb, tm_kp h0.g h0.go t1 hkp, h0.go.mono t2, (h0.n.kp hkp t1).mono fun b hb _ => t2 b hb⟩
    · exact (h.each y hy).tr hkp hv t1 t2
  · simp only; rw [hmap]; exact h.v1
  · simp only; rw [hmap]; exact h.v2
end
end Go.Proofs.YtjdoflfdlhpbmaaDoor

namespace Go.Proofs.YtjdoflfdlhpbmaaDoor
open Go.RowKit Go.Maps Go.Lib

theorem vw_set : ∀ (l : List Vw) (k : Nat) (hk : k < l.length) (y : Vw), y.V = l[k].V → (l.set k y).flatMap Vw.cells = (l.flatMap Vw.cells).set (k * 2 + 1) (.slice y.q y.N.length y.d)
  | x :: xs, 0, _, y, h => by
    simp only [List.getElem_cons_zero] at h
    simp only [List.set_cons_zero, List.flatMap_cons, Vw.cells, h]
    rfl
  | x :: xs, k + 1, hk, y, h => by
    have ih := vw_set xs k (by simpa using hk) y (by simpa using h)
    rw [List.set_cons_succ, List.flatMap_cons, List.flatMap_cons, ih, show (k + 1) * 2 + 1 = k * 2 + 1 + 1 + 1 by omega]
    rfl
theorem vw_at : ∀ (l : List Vw) (k : Nat) (hk : k < l.length), (l.flatMap Vw.cells)[k * 2]? = some (.pointer (some ⟨l[k].V, 0, none⟩)) ∧ (l.flatMap Vw.cells)[k * 2 + 1]? = some (.slice l[k].q l[k].N.length l[k].d)
  | x :: xs, 0, _ => ⟨rfl, rfl⟩
  | x :: xs, k + 1, hk => by
    have ih := vw_at xs k (by simpa using hk)
    rw [show (k + 1) * 2 = k * 2 + 1 + 1 by omega, show k * 2 + 1 + 1 + 1 = (k * 2 + 1) + 1 + 1 by omega]
    exact ih

section
variable {lo : Nat} {w w0 w1 : World} {s : PlaySt}
/-- The list of views is a row of its own, if there is one. -/
theorem PlM.row (h : PlM lo w s) (hl : 0 < s.vs.length) : ∃ (g cap : Nat) (cur : Array Value), s.vv = .slice (some ⟨g, 0, none⟩) s.vs.length cap ∧ s.vs.length ≤ cap ∧ cap ≤ 9223372036854775807 ∧ w.heap[g]? = some (.cells cur 71) ∧
    (∀ k (hk : k < s.vs.length), w.cell? ⟨g, k * 2, none⟩ = some (.pointer (some ⟨s.vs[k].V, 0, none⟩)) ∧ w.cell? ⟨g, k * 2 + 1, none⟩ = some (.slice s.vs[k].q s.vs[k].N.length s.vs[k].d)) := by
  rcases h.o.2 with ⟨_, h0⟩ | ⟨g, cap, cur, h0, h1, h2, h3, h4, h5, h6⟩
  · omega
  · simp only [maxLen] at h4
    refine ⟨g, cap, cur, h0, h3, by omega, h2, fun k hk => ?_⟩
    have key : ∀ j v, j < s.vs.length * 2 → (s.vs.flatMap Vw.cells)[j]? = some v → w.cell? ⟨g, j, none⟩ = some v := fun j v hj hv => by
      rw [cell_of_row w g _ _ _ _ h2, ← Array.getElem?_toList]
      rw [← h6, List.getElem?_take, if_pos hj] at hv
      exact hv
    obtain ⟨k1, k2⟩ := vw_at s.vs k hk
    exact ⟨key _ _ (by omega) k1, key _ _ (by omega) k2⟩
/-- What was told is taken from a view's list. -/
theorem PlM.pop (h : PlM lo w s) {k : Nat} (hk : k < s.vs.length) {q' : Option Addr} {d' : Nat} {N' : List Hr} (hN : HrSl (PlS w s.D) w q' d' N') {g cap : Nat} (hvv : s.vv = .slice (some ⟨g, 0, none⟩) s.vs.length cap) :
    PlM lo (w.setCell ⟨g, k * 2 + 1, none⟩ (.slice q' N'.length d')) { s with vs := s.vs.set k { s.vs[k] with q := q', d := d', N := N' } } ∧ Kp (fun x => x = g) w (w.setCell ⟨g, k * 2 + 1, none⟩ (.slice q' N'.length d')) := by
  have hkp : Kp (fun x => x = g) w (w.setCell ⟨g, k * 2 + 1, none⟩ (.slice q' N'.length d')) := Kp.set (C := fun x => x = g) rfl
  have hown : s.vv.ownBlock = some g := by rw [hvv]; rfl
  have hm : s.vs[k] ∈ s.vs := List.getElem_mem hk
  have hmap : (s.vs.set k { s.vs[k] with q := q', d := d', N := N' }).map Vw.V = s.vs.map Vw.V := map_set_same s.vs k hk _ rfl
  have hflat := vw_set s.vs k hk { s.vs[k] with q := q', d := d', N := N' } rfl
  have hDD : ∀ b, PlaySt.D { s with vs := s.vs.set k { s.vs[k] with q := q', d := d', N := N' } } b ↔ s.D b := fun b => by unfold PlaySt.D; simp only; rw [hmap]
  obtain ⟨n1, n2, n3⟩ := h.ov g hown
  refine ⟨?_, hkp⟩
  have ho : (w.setCell ⟨g, k * 2 + 1, none⟩ (.slice q' N'.length d')).ownsRow lo 71 2 s.vv s.vs.length ((s.vs.flatMap Vw.cells).set (k * 2 + 1) (.slice q' N'.length d')) := by
    refine ⟨by rw [List.length_set]; exact h.o.1, ?_⟩
    rcases h.o.2 with ⟨_, h0⟩ | ⟨g', cap', cur, h0, h1, h2, h3, h4, h5, h6⟩
    · omega
    · have hgg : g' = g := by rw [h0] at hown; cases hown; rfl
      subst hgg
      have h7 := heap_setCell_same w g' (k * 2 + 1) cur _ (.slice q' N'.length d') h2
      refine .inr ⟨g', cap', _, h0, h1, h7, h3, h4, by simpa using h5, ?_⟩
      rw [Array.toList_setIfInBounds, List.take_set, h6]
  generalize w.setCell ⟨g, k * 2 + 1, none⟩ (.slice q' N'.length d') = w' at *
  obtain ⟨t1, t2⟩ := pl_tr (D := s.D) (D' := PlaySt.D { s with vs := s.vs.set k { s.vs[k] with q := q', d := d', N := N' } }) hkp (fun b (hb : b = g) => .inl (.inr (.inr (.inr (.inl (by rw [hb]; exact hown)))))) (fun b hb => .inl ((hDD b).1 hb))
  have hVg : ∀ y ∈ s.vs, ¬ y.V = g := fun y hy e => (h.v1 y.V (List.mem_map.2 ⟨y, hy, rfl⟩)).2.2.2 (by rw [e]; exact hown)
  refine ⟨(h.b.kp hkp (fun b hb e => n1 (e ▸ hb)) t1).mono (fun b hb _ => t2 b hb) fun b hb hm => hb.2 (.inl hm), h.r.kp hkp (Ne.symm n2), (h.rl.kp hkp t1).mono fun b hb _ => t2 b hb, h.x.kp hkp (Ne.symm n3), ?_, fun y hy => ?_, h.rm, h.xm, h.rx, h.ov, ?_, ?_, fun b hb => h.low b ((hDD b).1 hb), fun b hb => Nat.lt_of_lt_of_le (h.lt b ((hDD b).1 hb)) hkp.size, Nat.le_trans h.lw hkp.size⟩
  · simp only
    rw [List.length_set, hflat]
    exact ho
  · rcases h.other hk hy with rfl | ⟨hy, hv⟩
    · have h0 := (h.each _ hm).tr hkp (hVg _ hm) t1 t2
      exact ⟨h0.v, h0.m, h0.g, h0.go, (hN.kp hkp t1).mono fun b hb _ => t2 b hb⟩
    · exact (h.each y hy).tr hkp (hVg y hy) t1 t2
  · simp only; rw [hmap]; exact h.v1
  · simp only; rw [hmap]; exact h.v2
/-- A view is put behind the others. -/
theorem PlM.push (h : PlM lo w0 s) (hg : Gr w0 w) {y : Vw} (hV : w0.heap.size ≤ y.V) (hVl : y.V < w.heap.size) (hy : VwOk (fun x => (PlS w0 s.D x ∨ w0.heap.size ≤ x) ∧ x ≠ y.V) w y) {v' : Value} (hgr : Kp (fun b => s.vv.ownBlock = some b) w w1)
    (ho : w1.ownsRow lo 71 2 v' (s.vs.length + 1) (s.vs.flatMap Vw.cells ++ y.cells)) (hoc : v'.ownBlock = s.vv.ownBlock ∨ v'.ownBlock = some w.heap.size) :
    PlM lo (w1.setCell ⟨s.X, 0, none⟩ v') { s with vv := v', vs := s.vs ++ [y] } ∧ Kp (fun b => s.vv.ownBlock = some b ∨ b = s.X) w0 (w1.setCell ⟨s.X, 0, none⟩ v') := by
  have k1 : Kp (fun b => s.vv.ownBlock = some b ∨ b = s.X) w w1 := hgr.mono fun r hr => .inl hr
  have k2 : Kp (fun b => s.vv.ownBlock = some b ∨ b = s.X) w1 (w1.setCell ⟨s.X, 0, none⟩ v') := Kp.set (C := fun b => s.vv.ownBlock = some b ∨ b = s.X) (.inr rfl)
  have kw := k1.trans k2
  have kk : Kp (fun b => s.vv.ownBlock = some b ∨ b = s.X) w0 (w1.setCell ⟨s.X, 0, none⟩ v') := (Kp.of_gr hg).trans kw
  have hsz := hg.size
  have h1sz := k1.size
  have ovl : ∀ b, s.vv.ownBlock = some b → b < w0.heap.size := fun b hb => h.lt b (.inr (.inr (.inr (.inl hb))))
  have vl : ∀ b ∈ s.vs.map Vw.V, b < w0.heap.size := fun b hb => h.lt b (.inr (.inr (.inr (.inr hb))))
  have hX := h.ndX
  have hRR := h.ndR
  have hBl := h.b.lt
  have voc : ∀ b, v'.ownBlock = some b → s.vv.ownBlock = some b ∨ b = w.heap.size := fun b hb => by
    rcases hoc with e | e
    · exact .inl (by rw [← e]; exact hb)
    · rw [e] at hb; cases hb; exact .inr rfl
  have vnX : v'.ownBlock ≠ some s.X := fun e => by
    rcases voc _ e with h1 | h1
    · exact (h.ov _ h1).2.2 rfl
    · omega
  have hxb : BlkT (w1.setCell ⟨s.X, 0, none⟩ v') s.X 28 #[v'] := by
    have h1 : BlkT w1 s.X 28 #[s.vv] := (h.x.gr hg).kp hgr (fun e => (h.ov _ e).2.2 rfl)
    exact h1.set 0 v'
  have ho2 : (w1.setCell ⟨s.X, 0, none⟩ v').ownsRow lo 71 2 v' (s.vs.length + 1) (s.vs.flatMap Vw.cells ++ y.cells) := ownsRow_kpv ho (Kp.set (C := fun b => b = s.X) rfl) (fun b hb (e : b = s.X) => vnX (e ▸ hb))
  refine ⟨?_, kk⟩
  generalize w1.setCell ⟨s.X, 0, none⟩ v' = w2 at *
  have hmap : (s.vs ++ [y]).map Vw.V = s.vs.map Vw.V ++ [y.V] := by rw [List.map_append]; rfl
  have hD : ∀ b, PlaySt.D { s with vv := v', vs := s.vs ++ [y] } b → s.D b ∨ b = w.heap.size ∨ b = y.V := fun b hb => by
    rcases hb with hb | hb | hb | hb | hb
    · exact .inl (.inl hb)
    · exact .inl (.inr (.inl hb))
    · exact .inl (.inr (.inr (.inl hb)))
    · rcases voc b hb with h1 | h1
      · exact .inl (.inr (.inr (.inr (.inl h1))))
      · exact .inr (.inl h1)
    · simp only at hb
      rw [hmap, List.mem_append, List.mem_singleton] at hb
      rcases hb with hb | hb
      · exact .inl (.inr (.inr (.inr (.inr hb))))
      · exact .inr (.inr hb)
  obtain ⟨t1, t2⟩ := pl_tr (D := s.D) (D' := PlaySt.D { s with vv := v', vs := s.vs ++ [y] }) kk (fun b hb => .inl (hb.elim (fun hb => .inr (.inr (.inr (.inl hb)))) fun hb => .inr (.inr (.inl hb)))) (fun b hb => (hD b hb).imp id fun hb => by rcases hb with rfl | rfl <;> omega)
  have nM : ∀ b, w0.heap.size ≤ b → ¬ Mut s.B s.M1 s.M2 s.va b := fun b h1 h2 => by have := hBl b h2; omega
  have hVs : y.V ∉ s.vs.map Vw.V := fun hm => by have := vl _ hm; omega
  -- the new view
  have ty : ∀ b, ((PlS w0 s.D b ∨ w0.heap.size ≤ b) ∧ b ≠ y.V) → ¬ (s.vv.ownBlock = some b ∨ b = s.X) := fun b hb hc => by
    have hbl : b < w0.heap.size := hc.elim (ovl b) fun e => by omega
    rcases hb.1 with h1 | h1
    · exact h1.2 (hc.elim (fun hc => .inr (.inr (.inr (.inl hc)))) fun hc => .inr (.inr (.inl hc)))
    · omega
  have ty2 : ∀ b, ((PlS w0 s.D b ∨ w0.heap.size ≤ b) ∧ b ≠ y.V) → b < w.heap.size → PlS w2 (PlaySt.D { s with vv := v', vs := s.vs ++ [y] }) b := fun b hb hbl => by
    refine ⟨Nat.lt_of_lt_of_le hbl kw.size, fun hd => ?_⟩
    rcases hD b hd with h1 | h1 | h1
    · rcases hb.1 with h2 | h2
      · exact h2.2 h1
      · have := h.lt b h1; omega
    · omega
    · exact hb.2 h1
  have hyv : ¬ (s.vv.ownBlock = some y.V ∨ y.V = s.X) := fun hc => by
    rcases hc with hc | hc
    · have := ovl _ hc; omega
    · omega
  refine ⟨(h.b.kp kk (fun b hb hc => hc.elim (fun hc => (h.ov b hc).1 hb) fun hc => h.xm (hc ▸ hb)) t1).mono (fun b hb _ => t2 b hb) fun b hb hm => hb.2 (.inl hm), h.r.kp kk (fun hc => hc.elim (fun hc => (h.ov _ hc).2.1 rfl) fun hc => h.rx hc), (h.rl.kp kk t1).mono fun b hb _ => t2 b hb, hxb, ?_, fun z hz => ?_, h.rm, h.xm, h.rx, fun b hb => ?_, fun b hb => ?_, ?_, fun b hb => ?_, fun b hb => ?_, Nat.le_trans h.lw kk.size⟩
  · simp only
    rw [List.length_append, List.flatMap_append, List.flatMap_cons, List.flatMap_nil, List.append_nil]
    exact ho2
  · rcases List.mem_append.1 hz with hz | hz
    · have hv := h.v1 z.V (List.mem_map.2 ⟨z, hz, rfl⟩)
      exact (h.each z hz).tr kk (fun hc => hc.elim (fun hc => hv.2.2.2 hc) fun hc => hv.2.2.1 hc) t1 t2
    · rw [List.mem_singleton] at hz
      subst hz
      exact ⟨hy.v.kp kw hyv, (hy.m.mono (S' := fun b => ((PlS w0 s.D b ∨ w0.heap.size ≤ b) ∧ b ≠ z.V) ∧ b < w.heap.size) fun b h1 h2 => ⟨h1, h2⟩).kp kw (fun b hb => ty b hb.1) |>.mono fun b hb _ => ty2 b hb.1 hb.2, tm_kp hy.g hy.go ty kw, (Tm.On.and hy.go hy.g.on).mono fun b hb => ty2 b hb.1 hb.2,
        (hy.n.mono (S' := fun b => ((PlS w0 s.D b ∨ w0.heap.size ≤ b) ∧ b ≠ z.V) ∧ b < w.heap.size) fun b h1 h2 => ⟨h1, h2⟩).kp kw (fun b hb => ty b hb.1) |>.mono fun b hb _ => ty2 b hb.1 hb.2⟩
  · rcases voc b hb with h1 | rfl
    · exact h.ov b h1
    · exact ⟨nM _ hsz, by simp only; omega, by simp only; omega⟩
  · simp only at hb ⊢
    rw [hmap, List.mem_append, List.mem_singleton] at hb
    rcases hb with hb | rfl
    · obtain ⟨a1, a2, a3, a4⟩ := h.v1 b hb
      refine ⟨a1, a2, a3, fun e => ?_⟩
      rcases voc b e with h1 | h1
      · exact a4 h1
      · have := vl b hb; omega
    · refine ⟨nM _ hV, by omega, by omega, fun e => ?_⟩
      rcases voc _ e with h1 | h1
      · have := ovl _ h1; omega
      · omega
  · simp only
    rw [hmap, List.nodup_append]
    refine ⟨h.v2, by simp, fun a ha b hb e => ?_⟩
    rw [List.mem_singleton] at hb
    subst hb
    subst e
    exact hVs ha
  · rcases hD b hb with h1 | h1 | h1
    · exact h.low b h1
    · have := h.lw; omega
    · have := h.lw; omega
  · have hl := kk.size
    have hl2 := kw.size
    rcases hb with hb | hb | hb | hb | hb
    · have := h.lt b (.inl hb); omega
    · have := h.lt b (.inr (.inl hb)); omega
    · have := h.lt b (.inr (.inr (.inl hb))); omega
    · exact (ho2.lt b hb).2
    · simp only at hb
      rw [hmap, List.mem_append, List.mem_singleton] at hb
      rcases hb with hb | rfl
      · have := vl b hb; omega
      · omega
end
end Go.Proofs.YtjdoflfdlhpbmaaDoor
