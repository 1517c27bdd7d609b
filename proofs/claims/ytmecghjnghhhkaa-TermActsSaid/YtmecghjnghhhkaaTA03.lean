/-
  The code of an error, from the form.
-/
import Derived.Test.YtmecghjnghhhkaaUO06
namespace Go.Proofs.Ytmecghjnghhhkaa
open Go.RowKit Go.Maps Go.Lib
def errOf (f : Bool) : Int := if f then 0 else 2
theorem own_ltA {w : World} {B e sz n : Nat} {v : Value} {xs : List Value} (h : w.ownsRow B e sz v n xs) {b : Nat} (hb : v.ownBlock = some b) : b < w.heap.size := by
  rcases h.2 with ⟨rfl, _⟩ | ⟨g, cap, cur, rfl, h2, h3, h4⟩
  · cases hb
  · cases hb
    exact (Array.getElem?_eq_some_iff.1 h3).1
end Go.Proofs.Ytmecghjnghhhkaa
