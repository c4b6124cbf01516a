/-
  Walks of the laws' marks over slices of structs of two cells: marked and held.
-/
import Derived.Test.YthhpeanlpikjbaaMarkSe
import Derived.Test.YthhpeanlpikjbaaSlTf
namespace Go.Proofs.Ythhpeanlpikjbaa
open Go.RowKit Go.ChangeShapes Go.WideShapes
set_option linter.unusedVariables false
attribute [local go_sem ↓] Go.wp_at_zero Go.wp_at_succ

/-- the marks of so many elements -/
def marksTf (k0 n : Nat) : List Se := (List.range n).map fun j : Nat => (mtxt (k0 + 2 * j), ((k0 + 2 * j + 1 : Nat) : Int))
theorem marksTf_len (k0 n : Nat) : (marksTf k0 n).length = n := by simp [marksTf]
theorem marksTf_get (k0 n j : Nat) (h : j < (marksTf k0 n).length) : (marksTf k0 n)[j] = (mtxt (k0 + 2 * j), ((k0 + 2 * j + 1 : Nat) : Int)) := by simp [marksTf]
theorem marksTf_step (k0 j : Nat) (l : List Se) (h : j < l.length) : (marksTf k0 j ++ l.drop j).set j (mtxt (k0 + 2 * j), ((k0 + 2 * j + 1 : Nat) : Int)) = marksTf k0 (j + 1) ++ l.drop (j + 1) := by
  have e : l.drop j = l[j] :: l.drop (j + 1) := List.drop_eq_getElem_cons h
  rw [e, List.set_append_right _ _ (by simp [marksTf])]
  simp [marksTf, List.range_succ]
  rw [e]; rfl
theorem marksTf_bound (k0 j : Nat) (l : List Se) (h : j ≤ l.length) : (marksTf k0 j ++ l.drop j).length = l.length := by
  simp [marksTf]; omega

set_option maxHeartbeats 2000000 in
theorem markTf_any (B : Nat) (ao : Option Addr) (n cap : Nat) (l : List Se) (k0 : Nat) (w : World) (hown : w.ownsRow B 109 2 (.slice ao n cap) n (ses l)) (hm : n ≤ 1048576) (hk0 : 1 ≤ k0) (hk1 : k0 ≤ 536870912) :
    Calls Try.prog 72 #[.slice ao n cap, .int .i64 k0] w fun e w' => e = .returned (.int .i64 ((k0 + 2 * n : Nat) : Int)) ∧ w'.ownsRow B 109 2 (.slice ao n cap) n (ses (marksTf k0 n)) ∧ w.grownBy w' (Value.slice ao n cap).ownBlock := by
  have hxl : l.length = n := by have := hown.1; rw [ses_len] at this; omega
  rcases owns_form hown with ⟨hv, hn0, hx0⟩ | ⟨g, c, hv, hBg, hgl, hnc, hcm⟩
  · subst hn0
    clear hxl
    go_enter Try.func72, Try.ntmps72
    go_wp2
    refine wp_loop_rounds 1 ?_
    rw [rounds_succ]
    go_wp2
    go_ret
    refine ⟨ret_int (by omega), ?_, World.grownBy.refl _ _⟩
    rw [hx0] at hown
    exact hown
  · simp only [Value.slice.injEq] at hv
    obtain ⟨rfl, _, rfl⟩ := hv
    have HXL := hid hxl
    clear hxl
    go_enter Try.func72, Try.ntmps72
    go_wp2
    go_loopw [1, 5] (fun k i wr => ∃ j : Nat, j ≤ n ∧ i = .int .i64 j ∧ k = .int .i64 ((k0 + 2 * j : Nat) : Int) ∧ wr.ownsRow B 109 2 (.slice (some ⟨g, 0, none⟩) n cap) n (ses (marksTf k0 j ++ l.drop j)) ∧ w.grownBy wr (some g)) (fun _ i _ => n - (intOf i).toNat)
    case atStart => exact ⟨0, Nat.zero_le _, rfl, by simp, by simpa [marksTf] using hown, World.grownBy.refl _ _⟩
    case round =>
      obtain ⟨j, hj, rfl, rfl, ho, hg⟩ := hrel
      by_cases hlt : j < n
      · have hjx : j < l.length := by rw [HXL.out]; exact hlt
        have hgz := hg.size
        have hgw : g < wr.heap.size := by omega
        have hk0' : (0 : Int) ≤ (j : Int) := by omega
        have hkn : (j : Int) < (n : Int) := by omega
        have HL := hid (show (marksTf k0 j ++ l.drop j).length = n by rw [marksTf_bound k0 j l (by omega)]; exact HXL.out)
        have HM := hid (marksTf_step k0 j l hjx)
        obtain ⟨z, hz⟩ : ∃ z, z = marksTf k0 j ++ l.drop j := ⟨_, rfl⟩
        rw [← hz] at ho HL HM
        clear hz
        go_wp2_with fail
        refine (markTextI_any (k0 + 2 * j) _ (by omega) (by omega) (by omega)).mono ?_
        rintro e w' ⟨rfl, hb⟩
        have ho2 := owns_below ho hb
        obtain ⟨v, hcell⟩ : ∃ v, w'.cell? ⟨g, j * 2, none⟩ = some v := ⟨_, by rw [ho2.cellAt (j * 2) (by omega), List.getElem?_eq_getElem (by rw [ses_len, HL.out]; omega)]⟩
        have hfr := ho2.frozenAt (j * 2)
        have ho3 := (ho2.stored (j * 2) (.string (mtxt (k0 + 2 * j)))).1
        have hg3 := (ho2.stored (j * 2) (.string (mtxt (k0 + 2 * j)))).2
        obtain ⟨v2, hcell2⟩ : ∃ v, w'.cell? ⟨g, j * 2 + 1, none⟩ = some v := ⟨_, by rw [ho2.cellAt (j * 2 + 1) (by omega), List.getElem?_eq_getElem (by rw [ses_len, HL.out]; omega)]⟩
        have hfr2 := ho2.frozenAt (j * 2 + 1)
        go_wp2_with fail
        go_roundw
        case rel =>
          refine ⟨j + 1, by omega, by go_num, by first | go_num | (congr 1; omega), ?_, ?_⟩
          · rw [← HM.out, ← ses_set _ j (mtxt (k0 + 2 * j), ((k0 + 2 * j + 1 : Nat) : Int)) (by rw [HL.out]; exact hlt)]
            exact (ho3.stored (j * 2 + 1) _).1
          · exact grownBy_tr hg (grownBy_tr (grown_of_below hb) (grownBy_tr hg3 (ho3.stored (j * 2 + 1) _).2))
        case measure => simp [intOf]; omega
      · obtain rfl : j = n := by omega
        have hd := hid (show l.drop j = [] from List.drop_eq_nil_of_le (by rw [HXL.out]; omega))
        go_wp2
        go_ret
        refine ⟨rfl, ?_, hg⟩
        have := ho
        rw [hd.out, List.append_nil] at this
        exact this

end Go.Proofs.Ythhpeanlpikjbaa
