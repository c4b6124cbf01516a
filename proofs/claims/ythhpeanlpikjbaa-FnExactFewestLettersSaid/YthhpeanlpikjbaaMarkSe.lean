/-
  Walks of the laws' marks over slices of structs of two cells: marked and held.
-/
import Derived.Test.YthhpeanlpikjbaaMark
import Derived.Test.YthhpeanlpikjbaaSlSe
namespace Go.Proofs.Ythhpeanlpikjbaa
open Go.RowKit Go.ChangeShapes Go.WideShapes
set_option linter.unusedVariables false
attribute [local go_sem ↓] Go.wp_at_zero Go.wp_at_succ

theorem markTextI_any {k : Int} (j : Nat) (w : World) (hk : k = (j : Int)) (h1 : 1 ≤ j) (h2 : j ≤ 1073741824) : Calls Try.prog 67 #[.int .i64 k] w fun e w' => e = .returned (.string (mtxt j)) ∧ Below w.heap.size w w' := by
  subst hk; exact markText_any j w h1 h2
/-- the marks of so many elements -/
def marksSe (k0 n : Nat) : List Se := (List.range n).map fun j : Nat => (mtxt (k0 + 2 * j), ((k0 + 2 * j + 1 : Nat) : Int))
theorem marksSe_len (k0 n : Nat) : (marksSe k0 n).length = n := by simp [marksSe]
theorem marksSe_get (k0 n j : Nat) (h : j < (marksSe k0 n).length) : (marksSe k0 n)[j] = (mtxt (k0 + 2 * j), ((k0 + 2 * j + 1 : Nat) : Int)) := by simp [marksSe]
theorem marksSe_step (k0 j : Nat) (l : List Se) (h : j < l.length) : (marksSe k0 j ++ l.drop j).set j (mtxt (k0 + 2 * j), ((k0 + 2 * j + 1 : Nat) : Int)) = marksSe k0 (j + 1) ++ l.drop (j + 1) := by
  have e : l.drop j = l[j] :: l.drop (j + 1) := List.drop_eq_getElem_cons h
  rw [e, List.set_append_right _ _ (by simp [marksSe])]
  simp [marksSe, List.range_succ]
  rw [e]; rfl
theorem marksSe_bound (k0 j : Nat) (l : List Se) (h : j ≤ l.length) : (marksSe k0 j ++ l.drop j).length = l.length := by
  simp [marksSe]; omega

set_option maxHeartbeats 2000000 in
theorem markSe_any (B : Nat) (ao : Option Addr) (n cap : Nat) (l : List Se) (k0 : Nat) (w : World) (hown : w.ownsRow B 72 2 (.slice ao n cap) n (ses l)) (hm : n ≤ 1048576) (hk0 : 1 ≤ k0) (hk1 : k0 ≤ 536870912) :
    Calls Try.prog 30 #[.slice ao n cap, .int .i64 k0] w fun e w' => e = .returned (.int .i64 ((k0 + 2 * n : Nat) : Int)) ∧ w'.ownsRow B 72 2 (.slice ao n cap) n (ses (marksSe k0 n)) ∧ w.grownBy w' (Value.slice ao n cap).ownBlock := by
  have hxl : l.length = n := by have := hown.1; rw [ses_len] at this; omega
  rcases owns_form hown with ⟨hv, hn0, hx0⟩ | ⟨g, c, hv, hBg, hgl, hnc, hcm⟩
  · subst hn0
    clear hxl
    go_enter Try.func30, Try.ntmps30
    go_wp2
    refine wp_loop_rounds 1 ?_
    rw [rounds_succ]
    go_wp2
    go_ret
    refine ⟨ret_int (by omega), ?_, World.grownBy.refl _ _⟩
    rw [hx0] at hown
    exact hown
  · simp only [Value.slice.injEq] at hv
    obtain ⟨rfl, _, rfl⟩ := hv
    have HXL := hid hxl
    clear hxl
    go_enter Try.func30, Try.ntmps30
    go_wp2
    go_loopw [1, 5] (fun k i wr => ∃ j : Nat, j ≤ n ∧ i = .int .i64 j ∧ k = .int .i64 ((k0 + 2 * j : Nat) : Int) ∧ wr.ownsRow B 72 2 (.slice (some ⟨g, 0, none⟩) n cap) n (ses (marksSe k0 j ++ l.drop j)) ∧ w.grownBy wr (some g)) (fun _ i _ => n - (intOf i).toNat)
    case atStart => exact ⟨0, Nat.zero_le _, rfl, by simp, by simpa [marksSe] using hown, World.grownBy.refl _ _⟩
    case round =>
      obtain ⟨j, hj, rfl, rfl, ho, hg⟩ := hrel
      by_cases hlt : j < n
      · have hjx : j < l.length := by rw [HXL.out]; exact hlt
        have hgz := hg.size
        have hgw : g < wr.heap.size := by omega
        have hk0' : (0 : Int) ≤ (j : Int) := by omega
        have hkn : (j : Int) < (n : Int) := by omega
        have HL := hid (show (marksSe k0 j ++ l.drop j).length = n by rw [marksSe_bound k0 j l (by omega)]; exact HXL.out)
        have HM := hid (marksSe_step k0 j l hjx)
        obtain ⟨z, hz⟩ : ∃ z, z = marksSe k0 j ++ l.drop j := ⟨_, rfl⟩
        rw [← hz] at ho HL HM
        clear hz
        go_wp2_with fail
        refine (markTextI_any (k0 + 2 * j) _ (by omega) (by omega) (by omega)).mono ?_
        rintro e w' ⟨rfl, hb⟩
        have ho2 := owns_below ho hb
        obtain ⟨v, hcell⟩ : ∃ v, w'.cell? ⟨g, j * 2, none⟩ = some v := ⟨_, by rw [ho2.cellAt (j * 2) (by omega), List.getElem?_eq_getElem (by rw [ses_len, HL.out]; omega)]⟩
        have hfr := ho2.frozenAt (j * 2)
        have ho3 := (ho2.stored (j * 2) (.string (mtxt (k0 + 2 * j)))).1
        have hg3 := (ho2.stored (j * 2) (.string (mtxt (k0 + 2 * j)))).2
        obtain ⟨v2, hcell2⟩ : ∃ v, w'.cell? ⟨g, j * 2 + 1, none⟩ = some v := ⟨_, by rw [ho2.cellAt (j * 2 + 1) (by omega), List.getElem?_eq_getElem (by rw [ses_len, HL.out]; omega)]⟩
        have hfr2 := ho2.frozenAt (j * 2 + 1)
        go_wp2_with fail
        go_roundw
        case rel =>
          refine ⟨j + 1, by omega, by go_num, by first | go_num | (congr 1; omega), ?_, ?_⟩
          · rw [← HM.out, ← ses_set _ j (mtxt (k0 + 2 * j), ((k0 + 2 * j + 1 : Nat) : Int)) (by rw [HL.out]; exact hlt)]
            exact (ho3.stored (j * 2 + 1) _).1
          · exact grownBy_tr hg (grownBy_tr (grown_of_below hb) (grownBy_tr hg3 (ho3.stored (j * 2 + 1) _).2))
        case measure => simp [intOf]; omega
      · obtain rfl : j = n := by omega
        have hd := hid (show l.drop j = [] from List.drop_eq_nil_of_le (by rw [HXL.out]; omega))
        go_wp2
        go_ret
        refine ⟨rfl, ?_, hg⟩
        have := ho
        rw [hd.out, List.append_nil] at this
        exact this

set_option maxHeartbeats 2000000 in
theorem heldSe_any (ao : Option Addr) (n cap : Nat) (k0 : Nat) (w : World) (hr : Rd w ao (ses (marksSe k0 n))) (hm : n ≤ 1048576) (hk0 : 1 ≤ k0) (hk1 : k0 ≤ 536870912) :
    Calls Try.prog 38 #[.slice ao n cap, .int .i64 k0] w fun e w' => e = .returned (.int .i64 ((k0 + 2 * n : Nat) : Int)) ∧ Below w.heap.size w w' := by
  have hcase : n = 0 ∨ ∃ b o, ao = some ⟨b, o, none⟩ ∧ b < w.heap.size ∧ ∀ j, j < n → w.cell? ⟨b, o + j * 2, none⟩ = some (.string (mtxt (k0 + 2 * j))) ∧ w.cell? ⟨b, o + j * 2 + 1, none⟩ = some (.int .i64 ((k0 + 2 * j + 1 : Nat) : Int)) := by
    rcases rd_se hr with hr | ⟨b, o, h1, h2, h3⟩
    · left
      have := congrArg List.length hr
      simpa [marksSe] using this
    · right
      exact ⟨b, o, h1, h2, fun j hj => by have := h3 j (by simpa [marksSe] using hj); rw [marksSe_get] at this; exact this⟩
  clear hr
  rcases hcase with h0 | ⟨b, o, rfl, hbl, hc⟩
  · subst h0
    go_enter Try.func38, Try.ntmps38
    go_wp2
    refine wp_loop_rounds 1 ?_
    rw [rounds_succ]
    go_wp2
    go_ret
    exact ⟨ret_int (by omega), Below.refl _ _⟩
  · have HC := hid hc
    clear hc
    go_enter Try.func38, Try.ntmps38
    go_wp2
    go_loopw [1, 5] (fun k i wr => ∃ j : Nat, j ≤ n ∧ i = .int .i64 j ∧ k = .int .i64 ((k0 + 2 * j : Nat) : Int) ∧ Below w.heap.size w wr) (fun _ i _ => n - (intOf i).toNat)
    case atStart => exact ⟨0, Nat.zero_le _, rfl, by simp, Below.refl _ _⟩
    case round =>
      obtain ⟨j, hj, rfl, rfl, hB⟩ := hrel
      by_cases hlt : j < n
      · obtain ⟨h1, h2⟩ := HC.out j hlt
        have h1' := (hB.cell (p := ⟨b, o + j * 2, none⟩) hbl).trans h1
        have hbw := Nat.lt_of_lt_of_le hbl hB.size
        have hk0' : (0 : Int) ≤ (j : Int) := by omega
        have hkn : (j : Int) < (n : Int) := by omega
        have hmk := fun w => markTextI_any (k := ((k0 + 2 * j : Nat) : Int)) (k0 + 2 * j) w rfl (by omega) (by omega)
        have hmk2 := fun w => markTextI_any (k := ((k0 + 2 * j : Nat) : Int) + 1) (k0 + 2 * j + 1) w (by omega) (by omega) (by omega)
        go_wp2_with fail
        refine wp_region_over (by kernel_rfl) (by kernel_rfl) (fun hov => ?_)
        repeat (go_big_quiet_step (((go_at_call 67; exact overCall (hmk _)))))
        refine wpQuiet_nil ?_
        intro w5 hb5
        clear hov
        have hB5 := hB.trans (hb5.mono hB.size)
        have h2' := (hB5.cell (p := ⟨b, o + j * 2 + 1, none⟩) hbl).trans h2
        have hbw5 := Nat.lt_of_lt_of_le hbl hB5.size
        go_wp2
        go_roundw
        case rel => exact ⟨j + 1, by omega, by go_num, by first | go_num | (congr 1; omega), hB5⟩
        case measure => simp [intOf]; omega
      · obtain rfl : j = n := by omega
        go_wp2
        go_ret
        exact ⟨rfl, hB⟩
end Go.Proofs.Ythhpeanlpikjbaa
