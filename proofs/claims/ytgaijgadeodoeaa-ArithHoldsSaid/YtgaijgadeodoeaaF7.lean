/-
  A term is the same as itself.
-/
import Derived.Test.YtgaijgadeodoeaaT2
namespace Go.Proofs.Ytgaijgadeodoeaa
open Go.RowKit

mutual
theorem T.same_self : ∀ t : T, T.same t t = true
  | .mk k n s l => by simp [T.same, T.sameL_self l]
theorem T.sameL_self : ∀ l : List T, T.sameL l l = true
  | [] => by simp [T.sameL]
  | x :: xs => by simp [T.sameL, T.same_self x, T.sameL_self xs]
end

end Go.Proofs.Ytgaijgadeodoeaa
