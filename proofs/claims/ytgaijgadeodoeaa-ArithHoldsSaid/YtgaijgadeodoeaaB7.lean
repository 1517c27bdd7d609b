/-
  hornref.unary, hornref.binary
-/
import Derived.Test.YtgaijgadeodoeaaB2
import Derived.Test.YtgaijgadeodoeaaB5
import Derived.Test.YtgaijgadeodoeaaB6
namespace Go.Proofs.Ytgaijgadeodoeaa
open Go.RowKit

theorem if_elim {α : Type} {c : Prop} [Decidable c] {a b v : α} {p : Prop} (h : (if c then a else b) = v) (h1 : c → a = v → p) (h2 : ¬ c → b = v → p) : p := by
  by_cases hc : c
  · rw [if_pos hc] at h; exact h1 hc h
  · rw [if_neg hc] at h; exact h2 hc h

set_option maxHeartbeats 1000000 in
theorem unary_neg (s : ByteArray) (a : Int) (w : World) (hs : s.toList = [45]) (ha : In64 a) : Calls Try.prog 59 #[.string s, .int .i64 a] w (NumP (nNeg a) w) := by
  obtain ⟨a1, a2⟩ := ha
  by_cases hl : a = -9223372036854775808
  · subst hl
    go_enter Try.func59, Try.ntmps59
    go_wp2_with fail
    go_ret2
    exact nump_bad (ov_bad (by decide)) overflowL (by decide) (by decide) (Gr.rfl' _)
  have a3 : -9223372036854775807 ≤ a := by omega
  have hl' : (a == -9223372036854775808) = false := beq_eq_false_iff_ne.2 hl
  clear hl
  go_enter Try.func59, Try.ntmps59
  go_wp2_with fail
  all_goals
    go_ret2
    first
    | exact nump_ok (n := -a) (ov_ok (by omega) (by omega)) (by first | rfl | omega | (unfold wrap64; omega)) (Gr.rfl' _) ⟨by omega, by omega⟩
    | exact nump_bad (ov_bad (n := -a) (by omega)) overflowL (by decide) (by decide) (Gr.rfl' _)

set_option maxHeartbeats 1000000 in
theorem unary_plus (s : ByteArray) (a : Int) (w : World) (hs : s.toList = [43]) (ha : In64 a) : Calls Try.prog 59 #[.string s, .int .i64 a] w (NumP (Num.ok a) w) := by
  obtain ⟨a1, a2⟩ := ha
  go_enter Try.func59, Try.ntmps59
  go_wp2_with fail
  all_goals
    go_ret2
    exact nump_ok rfl rfl (Gr.rfl' _) ⟨a1, a2⟩

set_option maxHeartbeats 1000000 in
theorem unary_abs (s : ByteArray) (a : Int) (w : World) (hs : s.toList = [97, 98, 115]) (ha : In64 a) : Calls Try.prog 59 #[.string s, .int .i64 a] w (NumP (nAbs a) w) := by
  obtain ⟨a1, a2⟩ := ha
  by_cases hl : a = -9223372036854775808
  · subst hl
    go_enter Try.func59, Try.ntmps59
    go_wp2_with fail
    go_ret2
    exact nump_bad (ov_bad (by decide)) overflowL (by decide) (by decide) (Gr.rfl' _)
  have a3 : -9223372036854775807 ≤ a := by omega
  have hl' : (a == -9223372036854775808) = false := beq_eq_false_iff_ne.2 hl
  clear hl
  go_enter Try.func59, Try.ntmps59
  go_wp2_with fail
  all_goals
    go_ret2
    first
    | exact nump_ok (n := (a.natAbs : Int)) (ov_ok (by omega) (by omega)) (by first | rfl | omega | (unfold wrap64; omega)) (Gr.rfl' _) ⟨by omega, by omega⟩
    | exact nump_bad (ov_bad (n := (a.natAbs : Int)) (by omega)) overflowL (by decide) (by decide) (Gr.rfl' _)

set_option maxHeartbeats 1000000 in
theorem unary_sign (s : ByteArray) (a : Int) (w : World) (hs : s.toList = [115, 105, 103, 110]) (ha : In64 a) : Calls Try.prog 59 #[.string s, .int .i64 a] w (NumP (nSign a) w) := by
  obtain ⟨a1, a2⟩ := ha
  go_enter Try.func59, Try.ntmps59
  go_wp2_with fail
  all_goals
    go_ret2
    exact nump_ok (n := _) (congrArg Num.ok (by first | rw [if_pos (by omega)] | (rw [if_neg (by omega), if_pos (by omega)]) | (rw [if_neg (by omega), if_neg (by omega)]))) rfl (Gr.rfl' _) ⟨by decide, by decide⟩

set_option maxHeartbeats 1000000 in
theorem unary_not (s : ByteArray) (a : Int) (w : World) (hs : s.toList = [92]) (ha : In64 a) : Calls Try.prog 59 #[.string s, .int .i64 a] w (NumP (nNot a) w) := by
  obtain ⟨a1, a2⟩ := ha
  go_enter Try.func59, Try.ntmps59
  go_wp2_with fail
  all_goals
    go_ret2
    exact nump_ok rfl (by first | rfl | omega | (unfold wrap64; omega)) (Gr.rfl' _) ⟨by omega, by omega⟩

theorem unary_calls (s : ByteArray) (f : Int → Num) (a : Int) (w : World) (hf : prim1 s.toList = some f) (ha : In64 a) : Calls Try.prog 59 #[.string s, .int .i64 a] w (NumP (f a) w) := by
  unfold prim1 at hf
  refine if_elim hf (fun h e => ?_) fun _ hf => ?_
  · cases e; exact unary_neg s a w h ha
  refine if_elim hf (fun h e => ?_) fun _ hf => ?_
  · cases e; exact unary_plus s a w h ha
  refine if_elim hf (fun h e => ?_) fun _ hf => ?_
  · cases e; exact unary_abs s a w h ha
  refine if_elim hf (fun h e => ?_) fun _ hf => ?_
  · cases e; exact unary_sign s a w h ha
  refine if_elim hf (fun h e => ?_) fun _ hf => ?_
  · cases e; exact unary_not s a w h ha
  cases hf

set_option maxHeartbeats 1000000 in
theorem binary_add (s : ByteArray) (a b : Int) (w : World) (hs : s.toList = [43]) (ha : In64 a) (hb : In64 b) : Calls Try.prog 60 #[.string s, .int .i64 a, .int .i64 b] w (NumP (nAdd a b) w) := by
  obtain ⟨a1, a2⟩ := ha
  obtain ⟨b1, b2⟩ := hb
  go_enter Try.func60, Try.ntmps60
  go_wp2_with fail
  all_goals
    go_ret2
    first
    | exact nump_ok (n := a + b) (ov_ok (by omega) (by omega)) (by first | rfl | omega | (unfold wrap64; omega)) (Gr.rfl' _) ⟨by omega, by omega⟩
    | exact nump_bad (ov_bad (n := a + b) (by omega)) overflowL (by decide) (by decide) (Gr.rfl' _)

set_option maxHeartbeats 1000000 in
theorem binary_sub (s : ByteArray) (a b : Int) (w : World) (hs : s.toList = [45]) (ha : In64 a) (hb : In64 b) : Calls Try.prog 60 #[.string s, .int .i64 a, .int .i64 b] w (NumP (nSub a b) w) := by
  obtain ⟨a1, a2⟩ := ha
  obtain ⟨b1, b2⟩ := hb
  go_enter Try.func60, Try.ntmps60
  go_wp2_with fail
  all_goals
    go_ret2
    first
    | exact nump_ok (n := a - b) (ov_ok (by omega) (by omega)) (by first | rfl | omega | (unfold wrap64; omega)) (Gr.rfl' _) ⟨by omega, by omega⟩
    | exact nump_bad (ov_bad (n := a - b) (by omega)) overflowL (by decide) (by decide) (Gr.rfl' _)

set_option maxHeartbeats 1000000 in
theorem binary_mul (s : ByteArray) (a b : Int) (w : World) (hs : s.toList = [42]) (ha : In64 a) (hb : In64 b) : Calls Try.prog 60 #[.string s, .int .i64 a, .int .i64 b] w (NumP (nMul a b) w) := by
  have Hs := Lib.hid hs
  have Ha := Lib.hid ha
  have Hb := Lib.hid hb
  clear ha hb
  go_enter Try.func60, Try.ntmps60
  go_wp2_with fail
  refine (rtimes_calls a b _ Ha.out Hb.out).mono ?_
  generalize hr : nMul a b = r
  have Hr := Lib.hid hr
  clear hr
  cases r with
  | ok n =>
    rintro e w1 ⟨rfl, hg, hi⟩
    have Hi := Lib.hid hi
    clear hi
    go_wp2_with fail
    go_ret2
    exact nump_ok Hr.out rfl hg Hi.out
  | bad l =>
    rintro e w1 ⟨m, h1, h2, h3, rfl, hg⟩
    have H1 := Lib.hid h1
    have H2 := Lib.hid h2
    have H3 := Lib.hid h3
    clear h1 h2 h3
    go_wp2_with fail
    go_ret2
    exact nump_bad Hr.out H1.out H2.out H3.out hg

set_option maxHeartbeats 1000000 in
theorem binary_quo (s : ByteArray) (a b : Int) (w : World) (hs : s.toList = [47, 47]) (ha : In64 a) (hb : In64 b) : Calls Try.prog 60 #[.string s, .int .i64 a, .int .i64 b] w (NumP (nQuo a b) w) := by
  have Hs := Lib.hid hs
  have Ha := Lib.hid ha
  have Hb := Lib.hid hb
  clear ha hb
  go_enter Try.func60, Try.ntmps60
  go_wp2_with fail
  refine (parted_quo s a b _ Hs.out Ha.out Hb.out).mono ?_
  generalize hr : nQuo a b = r
  have Hr := Lib.hid hr
  clear hr
  cases r with
  | ok n =>
    rintro e w1 ⟨rfl, hg, hi⟩
    have Hi := Lib.hid hi
    clear hi
    go_wp2_with fail
    go_ret2
    exact nump_ok Hr.out rfl hg Hi.out
  | bad l =>
    rintro e w1 ⟨m, h1, h2, h3, rfl, hg⟩
    have H1 := Lib.hid h1
    have H2 := Lib.hid h2
    have H3 := Lib.hid h3
    clear h1 h2 h3
    go_wp2_with fail
    go_ret2
    exact nump_bad Hr.out H1.out H2.out H3.out hg

set_option maxHeartbeats 1000000 in
theorem binary_rem (s : ByteArray) (a b : Int) (w : World) (hs : s.toList = [114, 101, 109]) (ha : In64 a) (hb : In64 b) : Calls Try.prog 60 #[.string s, .int .i64 a, .int .i64 b] w (NumP (nRem a b) w) := by
  have Hs := Lib.hid hs
  have Ha := Lib.hid ha
  have Hb := Lib.hid hb
  clear ha hb
  go_enter Try.func60, Try.ntmps60
  go_wp2_with fail
  refine (parted_rem s a b _ Hs.out Ha.out Hb.out).mono ?_
  generalize hr : nRem a b = r
  have Hr := Lib.hid hr
  clear hr
  cases r with
  | ok n =>
    rintro e w1 ⟨rfl, hg, hi⟩
    have Hi := Lib.hid hi
    clear hi
    go_wp2_with fail
    go_ret2
    exact nump_ok Hr.out rfl hg Hi.out
  | bad l =>
    rintro e w1 ⟨m, h1, h2, h3, rfl, hg⟩
    have H1 := Lib.hid h1
    have H2 := Lib.hid h2
    have H3 := Lib.hid h3
    clear h1 h2 h3
    go_wp2_with fail
    go_ret2
    exact nump_bad Hr.out H1.out H2.out H3.out hg

set_option maxHeartbeats 1000000 in
theorem binary_div (s : ByteArray) (a b : Int) (w : World) (hs : s.toList = [100, 105, 118]) (ha : In64 a) (hb : In64 b) : Calls Try.prog 60 #[.string s, .int .i64 a, .int .i64 b] w (NumP (nDiv a b) w) := by
  have Hs := Lib.hid hs
  have Ha := Lib.hid ha
  have Hb := Lib.hid hb
  clear ha hb
  go_enter Try.func60, Try.ntmps60
  go_wp2_with fail
  refine (parted_div s a b _ Hs.out Ha.out Hb.out).mono ?_
  generalize hr : nDiv a b = r
  have Hr := Lib.hid hr
  clear hr
  cases r with
  | ok n =>
    rintro e w1 ⟨rfl, hg, hi⟩
    have Hi := Lib.hid hi
    clear hi
    go_wp2_with fail
    go_ret2
    exact nump_ok Hr.out rfl hg Hi.out
  | bad l =>
    rintro e w1 ⟨m, h1, h2, h3, rfl, hg⟩
    have H1 := Lib.hid h1
    have H2 := Lib.hid h2
    have H3 := Lib.hid h3
    clear h1 h2 h3
    go_wp2_with fail
    go_ret2
    exact nump_bad Hr.out H1.out H2.out H3.out hg

set_option maxHeartbeats 1000000 in
theorem binary_mod (s : ByteArray) (a b : Int) (w : World) (hs : s.toList = [109, 111, 100]) (ha : In64 a) (hb : In64 b) : Calls Try.prog 60 #[.string s, .int .i64 a, .int .i64 b] w (NumP (nMod a b) w) := by
  have Hs := Lib.hid hs
  have Ha := Lib.hid ha
  have Hb := Lib.hid hb
  clear ha hb
  go_enter Try.func60, Try.ntmps60
  go_wp2_with fail
  refine (parted_mod s a b _ Hs.out Ha.out Hb.out).mono ?_
  generalize hr : nMod a b = r
  have Hr := Lib.hid hr
  clear hr
  cases r with
  | ok n =>
    rintro e w1 ⟨rfl, hg, hi⟩
    have Hi := Lib.hid hi
    clear hi
    go_wp2_with fail
    go_ret2
    exact nump_ok Hr.out rfl hg Hi.out
  | bad l =>
    rintro e w1 ⟨m, h1, h2, h3, rfl, hg⟩
    have H1 := Lib.hid h1
    have H2 := Lib.hid h2
    have H3 := Lib.hid h3
    clear h1 h2 h3
    go_wp2_with fail
    go_ret2
    exact nump_bad Hr.out H1.out H2.out H3.out hg

set_option maxHeartbeats 1000000 in
theorem binary_min (s : ByteArray) (a b : Int) (w : World) (hs : s.toList = [109, 105, 110]) (ha : In64 a) (hb : In64 b) : Calls Try.prog 60 #[.string s, .int .i64 a, .int .i64 b] w (NumP (nMin a b) w) := by
  obtain ⟨a1, a2⟩ := ha
  obtain ⟨b1, b2⟩ := hb
  go_enter Try.func60, Try.ntmps60
  go_wp2_with fail
  all_goals
    go_ret2
    first | exact nump_ok (n := a) (congrArg Num.ok (by first | rw [if_pos (by omega)] | rw [if_neg (by omega)] | (split <;> omega))) rfl (Gr.rfl' _) ⟨a1, a2⟩ | exact nump_ok (n := b) (congrArg Num.ok (by first | rw [if_pos (by omega)] | rw [if_neg (by omega)] | (split <;> omega))) rfl (Gr.rfl' _) ⟨b1, b2⟩

set_option maxHeartbeats 1000000 in
theorem binary_max (s : ByteArray) (a b : Int) (w : World) (hs : s.toList = [109, 97, 120]) (ha : In64 a) (hb : In64 b) : Calls Try.prog 60 #[.string s, .int .i64 a, .int .i64 b] w (NumP (nMax a b) w) := by
  obtain ⟨a1, a2⟩ := ha
  obtain ⟨b1, b2⟩ := hb
  go_enter Try.func60, Try.ntmps60
  go_wp2_with fail
  all_goals
    go_ret2
    first | exact nump_ok (n := a) (congrArg Num.ok (by first | rw [if_pos (by omega)] | rw [if_neg (by omega)] | (split <;> omega))) rfl (Gr.rfl' _) ⟨a1, a2⟩ | exact nump_ok (n := b) (congrArg Num.ok (by first | rw [if_pos (by omega)] | rw [if_neg (by omega)] | (split <;> omega))) rfl (Gr.rfl' _) ⟨b1, b2⟩

set_option maxHeartbeats 1000000 in
theorem binary_gcd (s : ByteArray) (a b : Int) (w : World) (hs : s.toList = [103, 99, 100]) (ha : In64 a) (hb : In64 b) : Calls Try.prog 60 #[.string s, .int .i64 a, .int .i64 b] w (NumP (nGcd a b) w) := by
  have Hs := Lib.hid hs
  have Ha := Lib.hid ha
  have Hb := Lib.hid hb
  clear ha hb
  go_enter Try.func60, Try.ntmps60
  go_wp2_with fail
  refine (divisor_calls a b _ Ha.out Hb.out).mono ?_
  generalize hr : nGcd a b = r
  have Hr := Lib.hid hr
  clear hr
  cases r with
  | ok n =>
    rintro e w1 ⟨rfl, hg, hi⟩
    have Hi := Lib.hid hi
    clear hi
    go_wp2_with fail
    go_ret2
    exact nump_ok Hr.out rfl hg Hi.out
  | bad l =>
    rintro e w1 ⟨m, h1, h2, h3, rfl, hg⟩
    have H1 := Lib.hid h1
    have H2 := Lib.hid h2
    have H3 := Lib.hid h3
    clear h1 h2 h3
    go_wp2_with fail
    go_ret2
    exact nump_bad Hr.out H1.out H2.out H3.out hg

set_option maxHeartbeats 1000000 in
theorem binary_pow (s : ByteArray) (a b : Int) (w : World) (hs : s.toList = [42, 42]) (ha : In64 a) (hb : In64 b) : Calls Try.prog 60 #[.string s, .int .i64 a, .int .i64 b] w (NumP (nPow a b) w) := by
  have Hs := Lib.hid hs
  have Ha := Lib.hid ha
  have Hb := Lib.hid hb
  clear ha hb
  go_enter Try.func60, Try.ntmps60
  go_wp2_with fail
  refine (power_calls a b _ Ha.out Hb.out).mono ?_
  generalize hr : nPow a b = r
  have Hr := Lib.hid hr
  clear hr
  cases r with
  | ok n =>
    rintro e w1 ⟨rfl, hg, hi⟩
    have Hi := Lib.hid hi
    clear hi
    go_wp2_with fail
    go_ret2
    exact nump_ok Hr.out rfl hg Hi.out
  | bad l =>
    rintro e w1 ⟨m, h1, h2, h3, rfl, hg⟩
    have H1 := Lib.hid h1
    have H2 := Lib.hid h2
    have H3 := Lib.hid h3
    clear h1 h2 h3
    go_wp2_with fail
    go_ret2
    exact nump_bad Hr.out H1.out H2.out H3.out hg

set_option maxHeartbeats 1000000 in
theorem binary_hat (s : ByteArray) (a b : Int) (w : World) (hs : s.toList = [94]) (ha : In64 a) (hb : In64 b) : Calls Try.prog 60 #[.string s, .int .i64 a, .int .i64 b] w (NumP (nPow a b) w) := by
  have Hs := Lib.hid hs
  have Ha := Lib.hid ha
  have Hb := Lib.hid hb
  clear ha hb
  go_enter Try.func60, Try.ntmps60
  go_wp2_with fail
  refine (power_calls a b _ Ha.out Hb.out).mono ?_
  generalize hr : nPow a b = r
  have Hr := Lib.hid hr
  clear hr
  cases r with
  | ok n =>
    rintro e w1 ⟨rfl, hg, hi⟩
    have Hi := Lib.hid hi
    clear hi
    go_wp2_with fail
    go_ret2
    exact nump_ok Hr.out rfl hg Hi.out
  | bad l =>
    rintro e w1 ⟨m, h1, h2, h3, rfl, hg⟩
    have H1 := Lib.hid h1
    have H2 := Lib.hid h2
    have H3 := Lib.hid h3
    clear h1 h2 h3
    go_wp2_with fail
    go_ret2
    exact nump_bad Hr.out H1.out H2.out H3.out hg

set_option maxHeartbeats 1000000 in
theorem binary_left (s : ByteArray) (a b : Int) (w : World) (hs : s.toList = [60, 60]) (ha : In64 a) (hb : In64 b) : Calls Try.prog 60 #[.string s, .int .i64 a, .int .i64 b] w (NumP (nLeft a b) w) := by
  have Hs := Lib.hid hs
  have Ha := Lib.hid ha
  have Hb := Lib.hid hb
  clear ha hb
  go_enter Try.func60, Try.ntmps60
  go_wp2_with fail
  refine (shifted_left s a b _ Hs.out Ha.out Hb.out).mono ?_
  generalize hr : nLeft a b = r
  have Hr := Lib.hid hr
  clear hr
  cases r with
  | ok n =>
    rintro e w1 ⟨rfl, hg, hi⟩
    have Hi := Lib.hid hi
    clear hi
    go_wp2_with fail
    go_ret2
    exact nump_ok Hr.out rfl hg Hi.out
  | bad l =>
    rintro e w1 ⟨m, h1, h2, h3, rfl, hg⟩
    have H1 := Lib.hid h1
    have H2 := Lib.hid h2
    have H3 := Lib.hid h3
    clear h1 h2 h3
    go_wp2_with fail
    go_ret2
    exact nump_bad Hr.out H1.out H2.out H3.out hg

set_option maxHeartbeats 1000000 in
theorem binary_right (s : ByteArray) (a b : Int) (w : World) (hs : s.toList = [62, 62]) (ha : In64 a) (hb : In64 b) : Calls Try.prog 60 #[.string s, .int .i64 a, .int .i64 b] w (NumP (nRight a b) w) := by
  have Hs := Lib.hid hs
  have Ha := Lib.hid ha
  have Hb := Lib.hid hb
  clear ha hb
  go_enter Try.func60, Try.ntmps60
  go_wp2_with fail
  refine (shifted_right s a b _ Hs.out Ha.out Hb.out).mono ?_
  generalize hr : nRight a b = r
  have Hr := Lib.hid hr
  clear hr
  cases r with
  | ok n =>
    rintro e w1 ⟨rfl, hg, hi⟩
    have Hi := Lib.hid hi
    clear hi
    go_wp2_with fail
    go_ret2
    exact nump_ok Hr.out rfl hg Hi.out
  | bad l =>
    rintro e w1 ⟨m, h1, h2, h3, rfl, hg⟩
    have H1 := Lib.hid h1
    have H2 := Lib.hid h2
    have H3 := Lib.hid h3
    clear h1 h2 h3
    go_wp2_with fail
    go_ret2
    exact nump_bad Hr.out H1.out H2.out H3.out hg

set_option maxHeartbeats 1000000 in
theorem binary_and (s : ByteArray) (a b : Int) (w : World) (hs : s.toList = [47, 92]) (ha : In64 a) (hb : In64 b) : Calls Try.prog 60 #[.string s, .int .i64 a, .int .i64 b] w (NumP (nAnd a b) w) := by
  have Hs := Lib.hid hs
  have Ha := Lib.hid ha
  have Hb := Lib.hid hb
  clear ha hb
  go_enter Try.func60, Try.ntmps60
  go_wp2_with fail
  refine (bitwise_and s a b _ Hs.out Ha.out Hb.out).mono ?_
  rintro e w1 ⟨rfl, hg⟩
  go_wp2_with fail
  go_ret2
  exact nump_ok rfl rfl hg (bits_in _ _ _)

set_option maxHeartbeats 1000000 in
theorem binary_or (s : ByteArray) (a b : Int) (w : World) (hs : s.toList = [92, 47]) (ha : In64 a) (hb : In64 b) : Calls Try.prog 60 #[.string s, .int .i64 a, .int .i64 b] w (NumP (nOr a b) w) := by
  have Hs := Lib.hid hs
  have Ha := Lib.hid ha
  have Hb := Lib.hid hb
  clear ha hb
  go_enter Try.func60, Try.ntmps60
  go_wp2_with fail
  refine (bitwise_or s a b _ Hs.out Ha.out Hb.out).mono ?_
  rintro e w1 ⟨rfl, hg⟩
  go_wp2_with fail
  go_ret2
  exact nump_ok rfl rfl hg (bits_in _ _ _)

set_option maxHeartbeats 1000000 in
theorem binary_xor (s : ByteArray) (a b : Int) (w : World) (hs : s.toList = [120, 111, 114]) (ha : In64 a) (hb : In64 b) : Calls Try.prog 60 #[.string s, .int .i64 a, .int .i64 b] w (NumP (nXor a b) w) := by
  have Hs := Lib.hid hs
  have Ha := Lib.hid ha
  have Hb := Lib.hid hb
  clear ha hb
  go_enter Try.func60, Try.ntmps60
  go_wp2_with fail
  refine (bitwise_xor s a b _ Hs.out Ha.out Hb.out).mono ?_
  rintro e w1 ⟨rfl, hg⟩
  go_wp2_with fail
  go_ret2
  exact nump_ok rfl rfl hg (bits_in _ _ _)

theorem binary_calls (s : ByteArray) (f : Int → Int → Num) (a b : Int) (w : World) (hf : prim2 s.toList = some f) (ha : In64 a) (hb : In64 b) : Calls Try.prog 60 #[.string s, .int .i64 a, .int .i64 b] w (NumP (f a b) w) := by
  unfold prim2 at hf
  refine if_elim hf (fun h e => ?_) fun _ hf => ?_
  · cases e; exact binary_add s a b w h ha hb
  refine if_elim hf (fun h e => ?_) fun _ hf => ?_
  · cases e; exact binary_sub s a b w h ha hb
  refine if_elim hf (fun h e => ?_) fun _ hf => ?_
  · cases e; exact binary_mul s a b w h ha hb
  refine if_elim hf (fun h e => ?_) fun _ hf => ?_
  · cases e; exact binary_quo s a b w h ha hb
  refine if_elim hf (fun h e => ?_) fun _ hf => ?_
  · cases e; exact binary_rem s a b w h ha hb
  refine if_elim hf (fun h e => ?_) fun _ hf => ?_
  · cases e; exact binary_div s a b w h ha hb
  refine if_elim hf (fun h e => ?_) fun _ hf => ?_
  · cases e; exact binary_mod s a b w h ha hb
  refine if_elim hf (fun h e => ?_) fun _ hf => ?_
  · cases e; exact binary_min s a b w h ha hb
  refine if_elim hf (fun h e => ?_) fun _ hf => ?_
  · cases e; exact binary_max s a b w h ha hb
  refine if_elim hf (fun h e => ?_) fun _ hf => ?_
  · cases e; exact binary_gcd s a b w h ha hb
  refine if_elim hf (fun h e => ?_) fun _ hf => ?_
  · cases e; exact binary_pow s a b w h ha hb
  refine if_elim hf (fun h e => ?_) fun _ hf => ?_
  · cases e; exact binary_hat s a b w h ha hb
  refine if_elim hf (fun h e => ?_) fun _ hf => ?_
  · cases e; exact binary_left s a b w h ha hb
  refine if_elim hf (fun h e => ?_) fun _ hf => ?_
  · cases e; exact binary_right s a b w h ha hb
  refine if_elim hf (fun h e => ?_) fun _ hf => ?_
  · cases e; exact binary_and s a b w h ha hb
  refine if_elim hf (fun h e => ?_) fun _ hf => ?_
  · cases e; exact binary_or s a b w h ha hb
  refine if_elim hf (fun h e => ?_) fun _ hf => ?_
  · cases e; exact binary_xor s a b w h ha hb
  cases hf
end Go.Proofs.Ytgaijgadeodoeaa
