/-
  hornkeep.TermMemory's functions that are asked twice.
-/
import Derived.Test.YthncdmijledpnaaTM13
import Derived.Test.YthncdmijledpnaaTM20
import Derived.Test.YthncdmijledpnaaTM24
import Derived.Test.YthncdmijledpnaaTM25
import Derived.Test.YthncdmijledpnaaTM26
namespace Go.Proofs.Ythncdmijledpnaa
open Go.RowKit Go.Maps Go.Lib

/-- A term of the caller's own is handed back. -/
def RetMi (u : T) (w : World) (e : Ending) (w' : World) : Prop := ∃ x : Tm, e = .returned x.val ∧ x.In w' ∧ x.erase = u ∧ x.Mine w' ∧ x.On (w.heap.size ≤ ·) ∧ Gr w w'
theorem zeroTm_on' {S : Nat → Prop} : zeroTm.On S := by rw [zeroTm, Tm.On, Tm.OnL]; exact ⟨.inl rfl, trivial⟩
/-- A term of the caller's own, and an error's number. -/
def RetMe (u : T) (w : World) (e : Ending) (w' : World) : Prop := ∃ (x : Tm) (c : Int), e = .returned (.tuple #[x.val, .int .i64 c]) ∧ x.In w' ∧ x.erase = u ∧ x.Mine w' ∧ x.On (w.heap.size ≤ ·) ∧ Gr w w'
def renAns (a : T) (d : Int) : T := if a.formed = true ∧ ((T.varsL [a] []).length : Int) ≤ 1099511627776 - d + 1 then T.map (swapF d (T.varsL [a] [])) a else zeroT
def apAns (a : T) (l : List Bd) : T := if applyErr a l = 0 then T.map (lookupT l) a else zeroT
def genAns (a b : T) : T := if (a.formed && b.formed) = true then T.lgg a b else zeroT
def atAns (t : T) (L : List Int) : T := if t.formed = true then (T.at t L).getD zeroT else zeroT
def putAns (t : T) (L : List Int) (u : T) : T := if (t.formed && u.formed) = true ∧ (T.at t L).isSome = true then T.put t L u else zeroT
theorem at_mine {t : T} {L : List Int} {w : World} {e : Ending} {w' : World} (h : RetAt t L w e w') : RetMe (atAns t L) w e w' := by
  obtain ⟨hg, h⟩ := h
  rcases h with ⟨h1, rfl⟩ | ⟨h1, h2, rfl⟩ | ⟨h1, x, g, h2, rfl, h3, h4, h5, h6, _⟩
  · exact ⟨zeroTm, 2, rfl, zeroTm_in _, by rw [atAns, if_neg (by rw [h1]; simp), zeroTm_erase], zero_mine _, zeroTm_on', hg⟩
  · exact ⟨zeroTm, 8, rfl, zeroTm_in _, by rw [atAns, if_pos h1, h2, zeroTm_erase]; rfl, zero_mine _, zeroTm_on', hg⟩
  · exact ⟨g, 0, rfl, h3, by rw [atAns, if_pos h1, h2, h4]; rfl, h6.mine, h5, hg⟩
theorem put_mine {t : T} {L : List Int} {u : T} {w : World} {e : Ending} {w' : World} (h : RetPut t L u w e w') : RetMe (putAns t L u) w e w' := by
  obtain ⟨hg, h⟩ := h
  rcases h with ⟨h1, rfl⟩ | ⟨h1, h2, rfl⟩ | ⟨h1, h2, g, rfl, h3, h4, h5, h6⟩
  · exact ⟨zeroTm, 2, rfl, zeroTm_in _, by rw [putAns, if_neg (by rw [h1]; simp), zeroTm_erase], zero_mine _, zeroTm_on', hg⟩
  · exact ⟨zeroTm, 8, rfl, zeroTm_in _, by rw [putAns, if_neg (by rw [h2]; simp), zeroTm_erase], zero_mine _, zeroTm_on', hg⟩
  · exact ⟨g, 0, rfl, h3, by rw [putAns, if_pos ⟨h1, h2⟩, h4], h6.mine, h5, hg⟩
theorem ap_mine {t : T} {l : List Bd} {w : World} {e : Ending} {w' : World} (h : RetApW t l w e w') : RetMe (apAns t l) w e w' := by
  obtain ⟨b, rfl, h1, h2, h3, h4, h5⟩ := h
  exact ⟨b, _, rfl, h1, h2, h5.mine, h4, h3⟩
theorem gen_mine {a b : T} {w : World} {e : Ending} {w' : World} (h : RetGenM a b w e w') : RetMe (genAns a b) w e w' := by
  obtain ⟨g, c, rfl, h1, h2, h3, h4, h5, _⟩ := h
  exact ⟨g, c, rfl, h1, h5, h3, h2, h4⟩
theorem ren_mine {a : T} {d : Int} (hd : 0 ≤ d ∧ d ≤ 1099511627776) {w : World} {e : Ending} {w' : World} (h : RetRenameW w.heap.size a d w e w') : ∃ (x : Tm) (n c : Int), e = .returned (.tuple #[x.val, .int .i64 n, .int .i64 c]) ∧ x.In w' ∧ x.erase = renAns a d ∧ x.Mine w' ∧ x.On (w.heap.size ≤ ·) ∧ Gr w w' := by
  obtain ⟨u, n, c, rfl, h1, h2, h3, h4, h5⟩ := h
  refine ⟨u, n, c, rfl, h1, ?_, h3.mine, h2, h4⟩
  rcases h5 with ⟨h6, rfl, _⟩ | ⟨_, h6, _⟩ | ⟨h6, _, h7, rfl, _⟩ | ⟨h6, _, h7, h8, _⟩
  · rw [renAns, if_neg (by rw [h6]; simp), zeroTm_erase]
  · exact absurd hd h6
  · rw [renAns, if_neg (fun h => by have := h.2; omega), zeroTm_erase]
  · rw [renAns, if_pos ⟨h6, h7⟩, h8]

set_option maxHeartbeats 4000000 in
set_option maxRecDepth 100000 in
theorem tm1_calls (x : Tm) (Bx : Nat) (w : World) (ix : x.In w) (hx : Blk4 w Bx (.int .i64 x.k) (.int .i64 x.n) (.string x.s) (.slice x.p x.l.length x.c)) :
    Calls Try.prog 37 #[.pointer (some ⟨Bx, 0, none⟩)] w (RetMi (renAns x.erase 3) w) := by
  have Vx := Lib.hid (show x.val = .agg #[.int .i64 x.k, .int .i64 x.n, .string x.s, .slice x.p x.l.length x.c] from rfl)
  have Ix := Lib.hid ix
  have HBx := Lib.hid hx
  generalize hQ : RetMi (renAns x.erase 3) w = Q
  have HQ := Lib.hid hQ
  clear hQ ix hx
  go_enter Try.func37, Try.ntmps37
  try simp only [List.append_eq, List.cons_append, List.nil_append]
  go_upto_region 1 with fail
  have hR0 := Blk4.new w (.int .i64 0) (.int .i64 0) (.string ⟨#[]⟩) (.slice none 0 0)
  have gA : Gr w (w.alloc (.cells #[.int .i64 0, .int .i64 0, .string ⟨#[]⟩, .slice none 0 0] 25)) := by go_grown
  have hsA : w.heap.size < (w.alloc (.cells #[.int .i64 0, .int .i64 0, .string ⟨#[]⟩, .slice none 0 0] 25)).heap.size := by simp
  generalize w.alloc (.cells #[.int .i64 0, .int .i64 0, .string ⟨#[]⟩, .slice none 0 0] 25) = wA at *
  obtain ⟨⟨k0x, k1x, k2x, k3x⟩, _, _⟩ := (HBx.out.gr gA).parts
  go_upto_region 2 with (first
    | (go_at_call 38
       rewrite [← Vx.out]
       refine (renameW_calls x 3 _ (Tm.In_below gA Ix.out) ⟨by decide, by decide⟩).mono ?_
       intro e w3 hh
       obtain ⟨⟨kb, nb, sb, pb, cb, lb⟩, nn, c, rfl, hin, he, hwh, hon, hg⟩ := ren_mine (by decide) hh
       have HB2 := Lib.hid (And.intro hin (And.intro he (And.intro hwh hon)))
       rewrite [tm_val]
       clear hin he hwh hon hh k0x k1x k2x k3x)
    | fail)
  have hN := Blk4.new w3 (.int .i64 kb) (.int .i64 nb) (.string sb) (.slice pb lb.length cb)
  have gB : Gr w3 (w3.alloc (.cells #[.int .i64 kb, .int .i64 nb, .string sb, .slice pb lb.length cb] 25)) := by go_grown
  generalize w3.alloc (.cells #[.int .i64 kb, .int .i64 nb, .string sb, .slice pb lb.length cb] 25) = w4 at *
  obtain ⟨⟨n0, n1, n2, n3⟩, _, _⟩ := hN.parts
  obtain ⟨⟨r0, r1, r2, r3⟩, ⟨f0, f1, f2, f3⟩, hlt⟩ := (hR0.gr (Gr.trans hg gB)).parts
  go_wp2_with fail
  refine bodyPost_ret (v := (Tm.mk kb nb sb pb cb lb).val) (by simp (maxDischargeDepth := 9) [results, Try.results37, go_sem, tm_val, r0, r1, r2, r3]) rfl ?_
  obtain ⟨hin, he, hwh, hon⟩ := HB2.out
  rw [← HQ.out]
  have k4 : ∀ q0 q1 q2 q3 : Value, Kp (· = w.heap.size) w4 ((((w4.setCell ⟨w.heap.size, 0, none⟩ q0).setCell ⟨w.heap.size, 1, none⟩ q1).setCell ⟨w.heap.size, 2, none⟩ q2).setCell ⟨w.heap.size, 3, none⟩ q3) := fun _ _ _ _ => Kp.set4 (C := fun b => b = w.heap.size) rfl
  have hne : ∀ b, wA.heap.size ≤ b → ¬ (b = w.heap.size) := fun b hb => by omega
  have g4 : Gr w w4 := Gr.trans (Gr.trans gA hg) gB
  exact ⟨_, rfl, kp_in (Tm.In_below gB hin) hon hne (k4 _ _ _ _), he, mine_kp (hwh.gr hin gB) (Tm.In_below gB hin) hon hne (k4 _ _ _ _), hon.mono fun b hb => (by have : wA.heap.size ≤ b := hb; omega), Below.trans g4 ((k4 _ _ _ _).below (fun b hb => by omega) g4.size)⟩

set_option maxHeartbeats 4000000 in
set_option maxRecDepth 100000 in
theorem tm2_calls (x : Tm) (Bx : Nat) (py : Option Addr) (cy : Nat) (ly : List Bd) (By : Nat) (w : World) (ix : x.In w) (hx : Blk4 w Bx (.int .i64 x.k) (.int .i64 x.n) (.string x.s) (.slice x.p x.l.length x.c)) (iy : (Bds.mk py cy ly).In w) (hy : BlkT w By 44 #[.slice py ly.length cy]) :
    Calls Try.prog 39 #[.pointer (some ⟨Bx, 0, none⟩), .pointer (some ⟨By, 0, none⟩)] w (RetMi (apAns x.erase ly) w) := by
  have Vx := Lib.hid (show x.val = .agg #[.int .i64 x.k, .int .i64 x.n, .string x.s, .slice x.p x.l.length x.c] from rfl)
  have Ix := Lib.hid ix
  have HBx := Lib.hid hx
  have Iy := Lib.hid iy
  have HBy := Lib.hid hy
  generalize hQ : RetMi (apAns x.erase ly) w = Q
  have HQ := Lib.hid hQ
  clear hQ ix hx iy hy
  go_enter Try.func39, Try.ntmps39
  try simp only [List.append_eq, List.cons_append, List.nil_append]
  go_upto_region 1 with fail
  have hR0 := Blk4.new w (.int .i64 0) (.int .i64 0) (.string ⟨#[]⟩) (.slice none 0 0)
  have gA : Gr w (w.alloc (.cells #[.int .i64 0, .int .i64 0, .string ⟨#[]⟩, .slice none 0 0] 25)) := by go_grown
  have hsA : w.heap.size < (w.alloc (.cells #[.int .i64 0, .int .i64 0, .string ⟨#[]⟩, .slice none 0 0] 25)).heap.size := by simp
  generalize w.alloc (.cells #[.int .i64 0, .int .i64 0, .string ⟨#[]⟩, .slice none 0 0] 25) = wA at *
  obtain ⟨⟨k0x, k1x, k2x, k3x⟩, _, _⟩ := (HBx.out.gr gA).parts
  have k0y := (HBy.out.gr gA).cell 0 (v := .slice py ly.length cy) rfl
  go_upto_region 2 with (first
    | (go_at_call 40
       rewrite [← Vx.out]
       refine (applyW_calls x py cy ly _ (Tm.In_below gA Ix.out) (Iy.out.mono gA)).mono ?_
       intro e w3 hh
       obtain ⟨⟨kb, nb, sb, pb, cb, lb⟩, c, rfl, hin, he, hwh, hon, hg⟩ := ap_mine hh
       have HB2 := Lib.hid (And.intro hin (And.intro he (And.intro hwh hon)))
       rewrite [tm_val]
       clear hin he hwh hon hh k0x k1x k2x k3x k0y)
    | fail)
  have hN := Blk4.new w3 (.int .i64 kb) (.int .i64 nb) (.string sb) (.slice pb lb.length cb)
  have gB : Gr w3 (w3.alloc (.cells #[.int .i64 kb, .int .i64 nb, .string sb, .slice pb lb.length cb] 25)) := by go_grown
  generalize w3.alloc (.cells #[.int .i64 kb, .int .i64 nb, .string sb, .slice pb lb.length cb] 25) = w4 at *
  obtain ⟨⟨n0, n1, n2, n3⟩, _, _⟩ := hN.parts
  obtain ⟨⟨r0, r1, r2, r3⟩, ⟨f0, f1, f2, f3⟩, hlt⟩ := (hR0.gr (Gr.trans hg gB)).parts
  go_wp2_with fail
  refine bodyPost_ret (v := (Tm.mk kb nb sb pb cb lb).val) (by simp (maxDischargeDepth := 9) [results, Try.results39, go_sem, tm_val, r0, r1, r2, r3]) rfl ?_
  obtain ⟨hin, he, hwh, hon⟩ := HB2.out
  rw [← HQ.out]
  have k4 : ∀ q0 q1 q2 q3 : Value, Kp (· = w.heap.size) w4 ((((w4.setCell ⟨w.heap.size, 0, none⟩ q0).setCell ⟨w.heap.size, 1, none⟩ q1).setCell ⟨w.heap.size, 2, none⟩ q2).setCell ⟨w.heap.size, 3, none⟩ q3) := fun _ _ _ _ => Kp.set4 (C := fun b => b = w.heap.size) rfl
  have hne : ∀ b, wA.heap.size ≤ b → ¬ (b = w.heap.size) := fun b hb => by omega
  have g4 : Gr w w4 := Gr.trans (Gr.trans gA hg) gB
  exact ⟨_, rfl, kp_in (Tm.In_below gB hin) hon hne (k4 _ _ _ _), he, mine_kp (hwh.gr hin gB) (Tm.In_below gB hin) hon hne (k4 _ _ _ _), hon.mono fun b hb => (by have : wA.heap.size ≤ b := hb; omega), Below.trans g4 ((k4 _ _ _ _).below (fun b hb => by omega) g4.size)⟩

set_option maxHeartbeats 4000000 in
set_option maxRecDepth 100000 in
theorem tm3_calls (x : Tm) (Bx : Nat) (y : Tm) (By : Nat) (w : World) (ix : x.In w) (hx : Blk4 w Bx (.int .i64 x.k) (.int .i64 x.n) (.string x.s) (.slice x.p x.l.length x.c)) (iy : y.In w) (hy : Blk4 w By (.int .i64 y.k) (.int .i64 y.n) (.string y.s) (.slice y.p y.l.length y.c)) (hsz : T.sz x.erase ≤ 1048576) :
    Calls Try.prog 41 #[.pointer (some ⟨Bx, 0, none⟩), .pointer (some ⟨By, 0, none⟩)] w (RetMi (genAns x.erase y.erase) w) := by
  have Vx := Lib.hid (show x.val = .agg #[.int .i64 x.k, .int .i64 x.n, .string x.s, .slice x.p x.l.length x.c] from rfl)
  have Ix := Lib.hid ix
  have HBx := Lib.hid hx
  have Vy := Lib.hid (show y.val = .agg #[.int .i64 y.k, .int .i64 y.n, .string y.s, .slice y.p y.l.length y.c] from rfl)
  have Iy := Lib.hid iy
  have HBy := Lib.hid hy
  have Hsz := Lib.hid hsz
  generalize hQ : RetMi (genAns x.erase y.erase) w = Q
  have HQ := Lib.hid hQ
  clear hQ hsz ix hx iy hy
  go_enter Try.func41, Try.ntmps41
  try simp only [List.append_eq, List.cons_append, List.nil_append]
  go_upto_region 1 with fail
  have hR0 := Blk4.new w (.int .i64 0) (.int .i64 0) (.string ⟨#[]⟩) (.slice none 0 0)
  have gA : Gr w (w.alloc (.cells #[.int .i64 0, .int .i64 0, .string ⟨#[]⟩, .slice none 0 0] 25)) := by go_grown
  have hsA : w.heap.size < (w.alloc (.cells #[.int .i64 0, .int .i64 0, .string ⟨#[]⟩, .slice none 0 0] 25)).heap.size := by simp
  generalize w.alloc (.cells #[.int .i64 0, .int .i64 0, .string ⟨#[]⟩, .slice none 0 0] 25) = wA at *
  obtain ⟨⟨k0x, k1x, k2x, k3x⟩, _, _⟩ := (HBx.out.gr gA).parts
  obtain ⟨⟨k0y, k1y, k2y, k3y⟩, _, _⟩ := (HBy.out.gr gA).parts
  go_upto_region 2 with (first
    | (go_at_call 27
       rewrite [← Vx.out, ← Vy.out]
       refine (generalM_calls x y _ (Tm.In_below gA Ix.out) (Tm.In_below gA Iy.out) Hsz.out).mono ?_
       intro e w3 hh
       obtain ⟨⟨kb, nb, sb, pb, cb, lb⟩, c, rfl, hin, he, hwh, hon, hg⟩ := gen_mine hh
       have HB2 := Lib.hid (And.intro hin (And.intro he (And.intro hwh hon)))
       rewrite [tm_val]
       clear hin he hwh hon hh k0x k1x k2x k3x k0y k1y k2y k3y)
    | fail)
  have hN := Blk4.new w3 (.int .i64 kb) (.int .i64 nb) (.string sb) (.slice pb lb.length cb)
  have gB : Gr w3 (w3.alloc (.cells #[.int .i64 kb, .int .i64 nb, .string sb, .slice pb lb.length cb] 25)) := by go_grown
  generalize w3.alloc (.cells #[.int .i64 kb, .int .i64 nb, .string sb, .slice pb lb.length cb] 25) = w4 at *
  obtain ⟨⟨n0, n1, n2, n3⟩, _, _⟩ := hN.parts
  obtain ⟨⟨r0, r1, r2, r3⟩, ⟨f0, f1, f2, f3⟩, hlt⟩ := (hR0.gr (Gr.trans hg gB)).parts
  go_wp2_with fail
  refine bodyPost_ret (v := (Tm.mk kb nb sb pb cb lb).val) (by simp (maxDischargeDepth := 9) [results, Try.results41, go_sem, tm_val, r0, r1, r2, r3]) rfl ?_
  obtain ⟨hin, he, hwh, hon⟩ := HB2.out
  rw [← HQ.out]
  have k4 : ∀ q0 q1 q2 q3 : Value, Kp (· = w.heap.size) w4 ((((w4.setCell ⟨w.heap.size, 0, none⟩ q0).setCell ⟨w.heap.size, 1, none⟩ q1).setCell ⟨w.heap.size, 2, none⟩ q2).setCell ⟨w.heap.size, 3, none⟩ q3) := fun _ _ _ _ => Kp.set4 (C := fun b => b = w.heap.size) rfl
  have hne : ∀ b, wA.heap.size ≤ b → ¬ (b = w.heap.size) := fun b hb => by omega
  have g4 : Gr w w4 := Gr.trans (Gr.trans gA hg) gB
  exact ⟨_, rfl, kp_in (Tm.In_below gB hin) hon hne (k4 _ _ _ _), he, mine_kp (hwh.gr hin gB) (Tm.In_below gB hin) hon hne (k4 _ _ _ _), hon.mono fun b hb => (by have : wA.heap.size ≤ b := hb; omega), Below.trans g4 ((k4 _ _ _ _).below (fun b hb => by omega) g4.size)⟩

set_option maxHeartbeats 4000000 in
set_option maxRecDepth 100000 in
theorem tm4_calls (x : Tm) (Bx : Nat) (py : Option Addr) (cy : Nat) (ly : List Int) (By : Nat) (w : World) (ix : x.In w) (hx : Blk4 w Bx (.int .i64 x.k) (.int .i64 x.n) (.string x.s) (.slice x.p x.l.length x.c)) (iy : IntSl w py cy ly) (hy : BlkT w By 55 #[.slice py ly.length cy]) :
    Calls Try.prog 42 #[.pointer (some ⟨Bx, 0, none⟩), .pointer (some ⟨By, 0, none⟩)] w (RetMi (atAns x.erase ly) w) := by
  have Vx := Lib.hid (show x.val = .agg #[.int .i64 x.k, .int .i64 x.n, .string x.s, .slice x.p x.l.length x.c] from rfl)
  have Ix := Lib.hid ix
  have HBx := Lib.hid hx
  have Iy := Lib.hid iy
  have HBy := Lib.hid hy
  generalize hQ : RetMi (atAns x.erase ly) w = Q
  have HQ := Lib.hid hQ
  clear hQ ix hx iy hy
  go_enter Try.func42, Try.ntmps42
  try simp only [List.append_eq, List.cons_append, List.nil_append]
  go_upto_region 1 with fail
  have hR0 := Blk4.new w (.int .i64 0) (.int .i64 0) (.string ⟨#[]⟩) (.slice none 0 0)
  have gA : Gr w (w.alloc (.cells #[.int .i64 0, .int .i64 0, .string ⟨#[]⟩, .slice none 0 0] 25)) := by go_grown
  have hsA : w.heap.size < (w.alloc (.cells #[.int .i64 0, .int .i64 0, .string ⟨#[]⟩, .slice none 0 0] 25)).heap.size := by simp
  generalize w.alloc (.cells #[.int .i64 0, .int .i64 0, .string ⟨#[]⟩, .slice none 0 0] 25) = wA at *
  obtain ⟨⟨k0x, k1x, k2x, k3x⟩, _, _⟩ := (HBx.out.gr gA).parts
  have k0y := (HBy.out.gr gA).cell 0 (v := .slice py ly.length cy) rfl
  go_upto_region 2 with (first
    | (go_at_call 43
       rewrite [← Vx.out]
       refine (at_calls x py cy ly _ (Tm.In_below gA Ix.out) (Iy.out.mono gA)).mono ?_
       intro e w3 hh
       obtain ⟨⟨kb, nb, sb, pb, cb, lb⟩, c, rfl, hin, he, hwh, hon, hg⟩ := at_mine hh
       have HB2 := Lib.hid (And.intro hin (And.intro he (And.intro hwh hon)))
       rewrite [tm_val]
       clear hin he hwh hon hh k0x k1x k2x k3x k0y)
    | fail)
  have hN := Blk4.new w3 (.int .i64 kb) (.int .i64 nb) (.string sb) (.slice pb lb.length cb)
  have gB : Gr w3 (w3.alloc (.cells #[.int .i64 kb, .int .i64 nb, .string sb, .slice pb lb.length cb] 25)) := by go_grown
  generalize w3.alloc (.cells #[.int .i64 kb, .int .i64 nb, .string sb, .slice pb lb.length cb] 25) = w4 at *
  obtain ⟨⟨n0, n1, n2, n3⟩, _, _⟩ := hN.parts
  obtain ⟨⟨r0, r1, r2, r3⟩, ⟨f0, f1, f2, f3⟩, hlt⟩ := (hR0.gr (Gr.trans hg gB)).parts
  go_wp2_with fail
  refine bodyPost_ret (v := (Tm.mk kb nb sb pb cb lb).val) (by simp (maxDischargeDepth := 9) [results, Try.results42, go_sem, tm_val, r0, r1, r2, r3]) rfl ?_
  obtain ⟨hin, he, hwh, hon⟩ := HB2.out
  rw [← HQ.out]
  have k4 : ∀ q0 q1 q2 q3 : Value, Kp (· = w.heap.size) w4 ((((w4.setCell ⟨w.heap.size, 0, none⟩ q0).setCell ⟨w.heap.size, 1, none⟩ q1).setCell ⟨w.heap.size, 2, none⟩ q2).setCell ⟨w.heap.size, 3, none⟩ q3) := fun _ _ _ _ => Kp.set4 (C := fun b => b = w.heap.size) rfl
  have hne : ∀ b, wA.heap.size ≤ b → ¬ (b = w.heap.size) := fun b hb => by omega
  have g4 : Gr w w4 := Gr.trans (Gr.trans gA hg) gB
  exact ⟨_, rfl, kp_in (Tm.In_below gB hin) hon hne (k4 _ _ _ _), he, mine_kp (hwh.gr hin gB) (Tm.In_below gB hin) hon hne (k4 _ _ _ _), hon.mono fun b hb => (by have : wA.heap.size ≤ b := hb; omega), Below.trans g4 ((k4 _ _ _ _).below (fun b hb => by omega) g4.size)⟩

set_option maxHeartbeats 4000000 in
set_option maxRecDepth 100000 in
theorem tm5_calls (x : Tm) (Bx : Nat) (py : Option Addr) (cy : Nat) (ly : List Int) (By : Nat) (z : Tm) (Bz : Nat) (w : World) (ix : x.In w) (hx : Blk4 w Bx (.int .i64 x.k) (.int .i64 x.n) (.string x.s) (.slice x.p x.l.length x.c)) (iy : IntSl w py cy ly) (hy : BlkT w By 55 #[.slice py ly.length cy]) (iz : z.In w) (hz : Blk4 w Bz (.int .i64 z.k) (.int .i64 z.n) (.string z.s) (.slice z.p z.l.length z.c)) :
    Calls Try.prog 44 #[.pointer (some ⟨Bx, 0, none⟩), .pointer (some ⟨By, 0, none⟩), .pointer (some ⟨Bz, 0, none⟩)] w (RetMi (putAns x.erase ly z.erase) w) := by
  have Vx := Lib.hid (show x.val = .agg #[.int .i64 x.k, .int .i64 x.n, .string x.s, .slice x.p x.l.length x.c] from rfl)
  have Ix := Lib.hid ix
  have HBx := Lib.hid hx
  have Iy := Lib.hid iy
  have HBy := Lib.hid hy
  have Vz := Lib.hid (show z.val = .agg #[.int .i64 z.k, .int .i64 z.n, .string z.s, .slice z.p z.l.length z.c] from rfl)
  have Iz := Lib.hid iz
  have HBz := Lib.hid hz
  generalize hQ : RetMi (putAns x.erase ly z.erase) w = Q
  have HQ := Lib.hid hQ
  clear hQ ix hx iy hy iz hz
  go_enter Try.func44, Try.ntmps44
  try simp only [List.append_eq, List.cons_append, List.nil_append]
  go_upto_region 1 with fail
  have hR0 := Blk4.new w (.int .i64 0) (.int .i64 0) (.string ⟨#[]⟩) (.slice none 0 0)
  have gA : Gr w (w.alloc (.cells #[.int .i64 0, .int .i64 0, .string ⟨#[]⟩, .slice none 0 0] 25)) := by go_grown
  have hsA : w.heap.size < (w.alloc (.cells #[.int .i64 0, .int .i64 0, .string ⟨#[]⟩, .slice none 0 0] 25)).heap.size := by simp
  generalize w.alloc (.cells #[.int .i64 0, .int .i64 0, .string ⟨#[]⟩, .slice none 0 0] 25) = wA at *
  obtain ⟨⟨k0x, k1x, k2x, k3x⟩, _, _⟩ := (HBx.out.gr gA).parts
  have k0y := (HBy.out.gr gA).cell 0 (v := .slice py ly.length cy) rfl
  obtain ⟨⟨k0z, k1z, k2z, k3z⟩, _, _⟩ := (HBz.out.gr gA).parts
  go_upto_region 2 with (first
    | (go_at_call 45
       rewrite [← Vx.out, ← Vz.out]
       refine (put_calls x py cy ly z _ (Tm.In_below gA Ix.out) (Iy.out.mono gA) (Tm.In_below gA Iz.out)).mono ?_
       intro e w3 hh
       obtain ⟨⟨kb, nb, sb, pb, cb, lb⟩, c, rfl, hin, he, hwh, hon, hg⟩ := put_mine hh
       have HB2 := Lib.hid (And.intro hin (And.intro he (And.intro hwh hon)))
       rewrite [tm_val]
       clear hin he hwh hon hh k0x k1x k2x k3x k0y k0z k1z k2z k3z)
    | fail)
  have hN := Blk4.new w3 (.int .i64 kb) (.int .i64 nb) (.string sb) (.slice pb lb.length cb)
  have gB : Gr w3 (w3.alloc (.cells #[.int .i64 kb, .int .i64 nb, .string sb, .slice pb lb.length cb] 25)) := by go_grown
  generalize w3.alloc (.cells #[.int .i64 kb, .int .i64 nb, .string sb, .slice pb lb.length cb] 25) = w4 at *
  obtain ⟨⟨n0, n1, n2, n3⟩, _, _⟩ := hN.parts
  obtain ⟨⟨r0, r1, r2, r3⟩, ⟨f0, f1, f2, f3⟩, hlt⟩ := (hR0.gr (Gr.trans hg gB)).parts
  go_wp2_with fail
  refine bodyPost_ret (v := (Tm.mk kb nb sb pb cb lb).val) (by simp (maxDischargeDepth := 9) [results, Try.results44, go_sem, tm_val, r0, r1, r2, r3]) rfl ?_
  obtain ⟨hin, he, hwh, hon⟩ := HB2.out
  rw [← HQ.out]
  have k4 : ∀ q0 q1 q2 q3 : Value, Kp (· = w.heap.size) w4 ((((w4.setCell ⟨w.heap.size, 0, none⟩ q0).setCell ⟨w.heap.size, 1, none⟩ q1).setCell ⟨w.heap.size, 2, none⟩ q2).setCell ⟨w.heap.size, 3, none⟩ q3) := fun _ _ _ _ => Kp.set4 (C := fun b => b = w.heap.size) rfl
  have hne : ∀ b, wA.heap.size ≤ b → ¬ (b = w.heap.size) := fun b hb => by omega
  have g4 : Gr w w4 := Gr.trans (Gr.trans gA hg) gB
  exact ⟨_, rfl, kp_in (Tm.In_below gB hin) hon hne (k4 _ _ _ _), he, mine_kp (hwh.gr hin gB) (Tm.In_below gB hin) hon hne (k4 _ _ _ _), hon.mono fun b hb => (by have : wA.heap.size ≤ b := hb; omega), Below.trans g4 ((k4 _ _ _ _).below (fun b hb => by omega) g4.size)⟩

end Go.Proofs.Ythncdmijledpnaa
