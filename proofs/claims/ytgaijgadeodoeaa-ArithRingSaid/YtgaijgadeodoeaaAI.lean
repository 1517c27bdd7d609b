/-
  hornkeep.ArithRing: the walks joined
-/
import Derived.Test.YtgaijgadeodoeaaAH1
import Derived.Test.YtgaijgadeodoeaaAH2
import Derived.Test.YtgaijgadeodoeaaAH3
namespace Go.Proofs.Ytgaijgadeodoeaa
open Go.RowKit

theorem arithRing_walk (a b c : Int) (w : World) (ha : In64 a) (hb : In64 b) (hc : In64 c) :
    Calls Try.prog 6 #[.int .i64 a, .int .i64 b, .int .i64 c] w (Ret (.bool true) w) := by
  generalize hx : opR (nAdd a b) = xx
  obtain ⟨ab, x⟩ := xx
  generalize hz : opR (nAdd b c) = zz
  obtain ⟨bc, z⟩ := zz
  cases x
  · exact ring_1 a b c ab bc z w ha hb hc hx hz
  cases z
  · exact ring_2 a b c ab bc w ha hb hc hx hz
  · exact ring_3 a b c ab bc w ha hb hc hx hz
end Go.Proofs.Ytgaijgadeodoeaa
