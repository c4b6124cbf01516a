/-
  Walks of the laws' marks over one machine.
-/
import Derived.Test.YthhpeanlpikjbaaMarkTf
import Derived.Test.YthhpeanlpikjbaaFaceF
namespace Go.Proofs.Ythhpeanlpikjbaa
open Go.RowKit Go.ChangeShapes Go.WideShapes
set_option linter.unusedVariables false
attribute [local go_sem ↓] Go.wp_at_zero Go.wp_at_succ

set_option maxHeartbeats 1000000 in
theorem markWr_any (B : Nat) (x : ByteArray) (ao : Option Addr) (n cap : Nat) (l : List Se) (k0 : Nat) (w : World) (hown : w.ownsRow B 109 2 (.slice ao n cap) n (ses l)) (hm : n ≤ 1048576) (hk0 : 1 ≤ k0) (hk1 : k0 ≤ 536870912) :
    Calls Try.prog 37 #[.agg #[.string x, .slice ao n cap], .int .i64 k0] w fun e w' => e = .returned (.int .i64 ((k0 + 2 * n : Nat) : Int)) ∧ w'.ownsRow B 109 2 (.slice ao n cap) n (ses (marksTf k0 n)) ∧ w.grownBy w' (Value.slice ao n cap).ownBlock := by
  go_enter Try.func37, Try.ntmps37
  go_wp2_with fail
  refine (markTf_any B ao n cap l k0 _ (hown.alloc _) hm hk0 hk1).mono ?_
  rintro e w1 ⟨rfl, ho, hg⟩
  go_wp2_with fail
  go_ret
  exact ⟨rfl, ho, grownBy_tr (World.grownBy_alloc w _ _) hg⟩
end Go.Proofs.Ythhpeanlpikjbaa
