/-
  The law ValidWriters: the walk.
-/
import Derived.Test.YthhpeanlpikjbaaWsV
import Derived.Test.YthhpeanlpikjbaaApart
namespace Go.Proofs.Ythhpeanlpikjbaa
open Go.RowKit Go.ChangeShapes Go.WideShapes Go.Maps
set_option linter.unusedVariables false
attribute [local go_sem ↓] Go.wp_at_zero Go.wp_at_succ

set_option maxRecDepth 100000 in
set_option maxHeartbeats 4000000 in
theorem lawValidWriters (w : World) (ao : Option Addr) (n cap : Nat) (l : List Ws) (ha : WsArg w ao n cap l) :
    Calls Try.prog 4 #[.slice ao n cap] w fun e w' => e = .returned (.bool true) ∧ Below w.heap.size w w' := by
  obtain rfl : n = l.length := ha.1
  go_enter Try.func4, Try.ntmps4
  go_wp2_with fail
  refine (szWriterS_any ao l.length cap l 1048576 _ (by omega) (by omega) ha).mono ?_
  rintro e w1 ⟨rfl, hb1⟩
  have B1 := hb1
  have hle := szAllWs_le 1048576 l.length l (by omega) (by omega)
  by_cases hz : (szAllWs 1048576 l.length l) < 0
  · go_wp2_with fail
    go_ret
    exact ⟨rfl, B1⟩
  have hsm := szAllWs_small2 rfl (by omega) (by omega) hz
  have h20 := hsm.1
  go_wp2_with fail
  refine (toWriterS_any ao l.length cap l _ (ha.below B1) hsm).mono ?_
  rintro e w2 ⟨ap, ac, aL, rfl, oa_2, ma, hb2⟩
  have B2 := B1.trans (hb2.mono B1.size)
  go_wp2_with fail
  refine (sValidWs_any ap l.length ac aL _ (oa_2.arg (ws_good ma hsm) (ws_sm ma (fun x hx => (ha.2.2.2 x hx).sm))) (ws_good ma hsm)).mono ?_
  rw [ma]
  rintro e w3 ⟨rfl, hb3⟩
  have B3 := B2.trans (hb3.mono B2.size)
  have oa_3 := oa_2.below hb3
  go_wp2_with fail
  refine (toWriterS_any ao l.length cap l _ (ha.below B3) hsm).mono ?_
  rintro e w4 ⟨xp, xc, xL, rfl, ox_4, mx, hb4⟩
  have B4 := B3.trans (hb4.mono B3.size)
  go_wp2_with fail
  refine (okWs_any xp l.length xc xL _ (ox_4.arg (ws_good mx hsm) (ws_sm mx (fun x hx => (ha.2.2.2 x hx).sm))) (ws_good mx hsm)).mono ?_
  rw [mx]
  rintro e w5 ⟨rfl, hb5⟩
  have B5 := B4.trans (hb5.mono B4.size)
  have ox_5 := ox_4.below hb5
  go_wp2_with fail
  refine (toWriterS_any ao l.length cap l _ (ha.below B5) hsm).mono ?_
  rintro e w6 ⟨yp, yc, yL, rfl, oy_6, my, hb6⟩
  have B6 := B5.trans (hb6.mono B5.size)
  have ox_6 := ox_5.below hb6
  go_wp2_with fail
  refine (eqWriterS_any _ _ _ _ _ xL yL _ (ox_6.arg (ws_good mx hsm) (ws_sm mx (fun x hx => (ha.2.2.2 x hx).sm))) (oy_6.arg (ws_good my hsm) (ws_sm my (fun x hx => (ha.2.2.2 x hx).sm))) (mx.trans my.symm) (ws_good mx hsm)).mono ?_
  rintro e w7 ⟨rfl, hb7⟩
  have B7 := B6.trans (hb7.mono B6.size)
  have ox_7 := ox_6.below hb7
  go_wp2_with fail
  go_ret
  exact ⟨rfl, B7⟩
end Go.Proofs.Ythhpeanlpikjbaa
