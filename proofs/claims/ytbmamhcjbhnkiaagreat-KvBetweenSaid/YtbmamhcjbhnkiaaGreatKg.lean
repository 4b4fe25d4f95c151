/- The walk of the reference's Join. -/
import Derived.Test.YtbmamhcjbhnkiaaGreatKd
import Derived.Test.YtbmamhcjbhnkiaaGreatKa
namespace Go.Proofs.YtbmamhcjbhnkiaaGreat
open Go.RowKit

theorem flat_take_le (ls : List (List UInt8)) (k : Nat) : (ls.take k).flatten.length ≤ ls.flatten.length := by
  have h : ls.flatten = (ls.take k).flatten ++ (ls.drop k).flatten := by rw [← List.flatten_append, List.take_append_drop]
  rw [h]; simp
theorem flat_take_succ (ls : List (List UInt8)) (k : Nat) (hk : k < ls.length) : (ls.take (k + 1)).flatten = (ls.take k).flatten ++ ls[k] := by
  rw [List.take_succ_eq_append_getElem hk, List.flatten_append]; simp

end Go.Proofs.YtbmamhcjbhnkiaaGreat
