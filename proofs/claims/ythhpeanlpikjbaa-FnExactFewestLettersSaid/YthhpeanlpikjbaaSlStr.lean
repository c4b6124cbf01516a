/-
  Walks of the laws' helpers over slices of strings: equal, copy, sizes; and the reference's cut of a text at a byte.
-/
import Derived.Test.YthhpeanlpikjbaaMem
import Derived.Test.YthhpeanlpikjbaaMem2
import Derived.Test.YthhpeanlpikjbaaSplit
namespace Go.Proofs.Ythhpeanlpikjbaa
open Go.RowKit
set_option linter.unusedVariables false

theorem Try.infoStr : (Try.prog.info? 9).map (fun i => (i.zero, i.size, i.bytes)) = some (some (.string ByteArray.empty), 1, 16) := by kernel_rfl
def strs (xs : List ByteArray) : List Value := xs.map Value.string
theorem strs_len (xs : List ByteArray) : (strs xs).length = xs.length := by simp [strs]
theorem strs_get (xs : List ByteArray) (j : Nat) (h : j < (strs xs).length) : (strs xs)[j] = .string (xs[j]'(by simpa [strs] using h)) := by simp [strs]
theorem strs_snoc (xs : List ByteArray) (y : ByteArray) : strs (xs ++ [y]) = strs xs ++ [.string y] := by simp [strs]

end Go.Proofs.Ythhpeanlpikjbaa
