/-
  Walks of the laws' marks over slices of structs of two cells: marked and held.
-/
import Derived.Test.YtnjdoedhhpkjhaaMark
import Derived.Test.YtnjdoedhhpkjhaaSlAb
namespace Go.Proofs.Ytnjdoedhhpkjhaa
open Go.RowKit Go.ChangeShapes Go.WideShapes
set_option linter.unusedVariables false
attribute [local go_sem ↓] Go.wp_at_zero Go.wp_at_succ

theorem markTextI_any {k : Int} (j : Nat) (w : World) (hk : k = (j : Int)) (h1 : 1 ≤ j) (h2 : j ≤ 1073741824) : Calls Try.prog 40 #[.int .i64 k] w fun e w' => e = .returned (.string (mtxt j)) ∧ Below w.heap.size w w' := by
  subst hk; exact markText_any j w h1 h2
/-- the marks of so many elements -/
def marksAb (k0 n : Nat) : List Ab := (List.range n).map fun j : Nat => (mtxt (k0 + 2 * j), mtxt (k0 + 2 * j + 1))
theorem marksAb_len (k0 n : Nat) : (marksAb k0 n).length = n := by simp [marksAb]
theorem marksAb_get (k0 n j : Nat) (h : j < (marksAb k0 n).length) : (marksAb k0 n)[j] = (mtxt (k0 + 2 * j), mtxt (k0 + 2 * j + 1)) := by simp [marksAb]
theorem marksAb_step (k0 j : Nat) (l : List Ab) (h : j < l.length) : (marksAb k0 j ++ l.drop j).set j (mtxt (k0 + 2 * j), mtxt (k0 + 2 * j + 1)) = marksAb k0 (j + 1) ++ l.drop (j + 1) := by
  have e : l.drop j = l[j] :: l.drop (j + 1) := List.drop_eq_getElem_cons h
  rw [e, List.set_append_right _ _ (by simp [marksAb])]
  simp [marksAb, List.range_succ]
  rw [e]; rfl
theorem marksAb_bound (k0 j : Nat) (l : List Ab) (h : j ≤ l.length) : (marksAb k0 j ++ l.drop j).length = l.length := by
  simp [marksAb]; omega

set_option maxHeartbeats 2000000 in
theorem markAb_any (B : Nat) (ao : Option Addr) (n cap : Nat) (l : List Ab) (k0 : Nat) (w : World) (hown : w.ownsRow B 57 2 (.slice ao n cap) n (abs l)) (hm : n ≤ 1048576) (hk0 : 1 ≤ k0) (hk1 : k0 ≤ 536870912) :
    Calls Try.prog 12 #[.slice ao n cap, .int .i64 k0] w fun e w' => e = .returned (.int .i64 ((k0 + 2 * n : Nat) : Int)) ∧ w'.ownsRow B 57 2 (.slice ao n cap) n (abs (marksAb k0 n)) ∧ w.grownBy w' (Value.slice ao n cap).ownBlock := by
  have hxl : l.length = n := by have := hown.1; rw [abs_len] at this; omega
  rcases owns_form hown with ⟨hv, hn0, hx0⟩ | ⟨g, c, hv, hBg, hgl, hnc, hcm⟩
  · subst hn0
    clear hxl
    go_enter Try.func12, Try.ntmps12
    go_wp2
    refine wp_loop_rounds 1 ?_
    rw [rounds_succ]
    go_wp2
    go_ret
    refine ⟨ret_int (by omega), ?_, World.grownBy.refl _ _⟩
    rw [hx0] at hown
    exact hown
  · simp only [Value.slice.injEq] at hv
    obtain ⟨rfl, _, rfl⟩ := hv
    have HXL := hid hxl
    clear hxl
    go_enter Try.func12, Try.ntmps12
    go_wp2
    go_loopw [1, 5] (fun k i wr => ∃ j : Nat, j ≤ n ∧ i = .int .i64 j ∧ k = .int .i64 ((k0 + 2 * j : Nat) : Int) ∧ wr.ownsRow B 57 2 (.slice (some ⟨g, 0, none⟩) n cap) n (abs (marksAb k0 j ++ l.drop j)) ∧ w.grownBy wr (some g)) (fun _ i _ => n - (intOf i).toNat)
    case atStart => exact ⟨0, Nat.zero_le _, rfl, by simp, by simpa [marksAb] using hown, World.grownBy.refl _ _⟩
    case round =>
      obtain ⟨j, hj, rfl, rfl, ho, hg⟩ := hrel
      by_cases hlt : j < n
      · have hjx : j < l.length := by rw [HXL.out]; exact hlt
        have hgz := hg.size
        have hgw : g < wr.heap.size := by omega
        have hk0' : (0 : Int) ≤ (j : Int) := by omega
        have hkn : (j : Int) < (n : Int) := by omega
        have HL := hid (show (marksAb k0 j ++ l.drop j).length = n by rw [marksAb_bound k0 j l (by omega)]; exact HXL.out)
        have HM := hid (marksAb_step k0 j l hjx)
        obtain ⟨z, hz⟩ : ∃ z, z = marksAb k0 j ++ l.drop j := ⟨_, rfl⟩
        rw [← hz] at ho HL HM
        clear hz
        go_wp2_with fail
        refine (markTextI_any (k0 + 2 * j) _ (by omega) (by omega) (by omega)).mono ?_
        rintro e w' ⟨rfl, hb⟩
        have ho2 := owns_below ho hb
        obtain ⟨v, hcell⟩ : ∃ v, w'.cell? ⟨g, j * 2, none⟩ = some v := ⟨_, by rw [ho2.cellAt (j * 2) (by omega), List.getElem?_eq_getElem (by rw [abs_len, HL.out]; omega)]⟩
        have hfr := ho2.frozenAt (j * 2)
        go_wp2_with fail
        have ho3 := (ho2.stored (j * 2) (.string (mtxt (k0 + 2 * j)))).1
        have hg3 := (ho2.stored (j * 2) (.string (mtxt (k0 + 2 * j)))).2
        refine (markTextI_any (k0 + 2 * j + 1) _ (by omega) (by omega) (by omega)).mono ?_
        rintro e w'' ⟨rfl, hb2⟩
        have ho4 := owns_below ho3 hb2
        obtain ⟨v2, hcell2⟩ : ∃ v, w''.cell? ⟨g, j * 2 + 1, none⟩ = some v := ⟨_, by rw [ho4.cellAt (j * 2 + 1) (by omega), List.getElem?_eq_getElem (by rw [List.length_set, abs_len, HL.out]; omega)]⟩
        have hfr2 := ho4.frozenAt (j * 2 + 1)
        go_wp2_with fail
        go_roundw
        case rel =>
          refine ⟨j + 1, by omega, by go_num, by first | go_num | (congr 1; omega), ?_, ?_⟩
          · rw [← HM.out, ← abs_set _ j (mtxt (k0 + 2 * j), mtxt (k0 + 2 * j + 1)) (by rw [HL.out]; exact hlt)]
            exact (ho4.stored (j * 2 + 1) _).1
          · exact grownBy_tr hg (grownBy_tr (grown_of_below hb) (grownBy_tr hg3 (grownBy_tr (grown_of_below hb2) (ho4.stored (j * 2 + 1) _).2)))
        case measure => simp [intOf]; omega
      · obtain rfl : j = n := by omega
        have hd := hid (show l.drop j = [] from List.drop_eq_nil_of_le (by rw [HXL.out]; omega))
        go_wp2
        go_ret
        refine ⟨rfl, ?_, hg⟩
        have := ho
        rw [hd.out, List.append_nil] at this
        exact this

end Go.Proofs.Ytnjdoedhhpkjhaa
