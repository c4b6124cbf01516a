/-
  Walks of the laws' marks that are texts: the text of a mark; slices of texts marked and held.
-/
import Derived.Test.YtnjdoedhhpkjhaaSlS
import Derived.Laws.BytesArg
namespace Go.Proofs.Ytnjdoedhhpkjhaa
open Go.RowKit Go.ChangeShapes Go.WideShapes
set_option linter.unusedVariables false
attribute [local go_sem ↓] Go.wp_at_zero Go.wp_at_succ

/-- a digit's byte -/
def dig (k : Nat) : UInt8 := UInt8.ofNat (48 + k % 10)
/-- a number's digits put ahead of a text -/
def digs (k : Nat) (out : ByteArray) : ByteArray := if h : k = 0 then out else digs (k / 10) (⟨#[dig k]⟩ ++ out)
termination_by k
decreasing_by omega
theorem digs_zero (out : ByteArray) : digs 0 out = out := by rw [digs]; simp
theorem digs_step {k : Nat} (h : 0 < k) (out : ByteArray) : digs k out = digs (k / 10) (⟨#[dig k]⟩ ++ out) := by rw [digs, dif_neg (by omega)]
def mtxt (k : Nat) : ByteArray := ⟨#[109]⟩ ++ digs k ⟨#[]⟩

theorem byte_cell (w : World) (j : Nat) (t : TypeId) : ∀ i, i < 1 → (w.alloc (.cells #[.int .u8 (48 + (j : Int) % 10)] t)).cell? ⟨w.heap.size, 0 + i, none⟩ = some (.int .u8 ([48 + (j : Int) % 10].getD i 0)) := by
  intro i hi
  obtain rfl : i = 0 := by omega
  simp
theorem digit_str (j : Nat) : strOfNums [48 + (j : Int) % 10] = ⟨#[dig j]⟩ := by
  have : (48 + (j : Int) % 10).toNat = 48 + j % 10 := by omega
  simp [strOfNums, this, dig]
set_option maxRecDepth 10000 in
set_option maxHeartbeats 1000000 in
theorem markText_any (k : Nat) (w : World) (h1 : 1 ≤ k) (h2 : k ≤ 1073741824) : Calls Try.prog 40 #[.int .i64 k] w fun e w' => e = .returned (.string (mtxt k)) ∧ Below w.heap.size w w' := by
  have hk : ¬ ((k : Int) ≤ 0) := by omega
  go_enter Try.func40, Try.ntmps40
  go_wp2_with fail
  go_loopw [0, 3] (fun kv o wr => ∃ (j : Nat) (out : ByteArray), kv = .int .i64 j ∧ o = .string out ∧ Hid (digs k ⟨#[]⟩ = digs j out) ∧ out.size + j ≤ k ∧ Below w.heap.size w wr) (fun kv _ _ => (intOf kv).toNat)
  case atStart => exact ⟨k, _, rfl, rfl, rfl, by show 0 + k ≤ k; omega, Below.refl _ _⟩
  case round =>
    obtain ⟨j, out, rfl, rfl, hD, hsz, hB⟩ := hrel
    by_cases hj : 0 < j
    · have hz := hB.size
      have hj1 : (0 : Int) < (j : Int) := by omega
      have e1 : IntKind.i64.wrap ((j : Int).tmod 10) = ((j % 10 : Nat) : Int) := by
        rw [Int.tmod_eq_emod_of_nonneg (by omega)]
        exact IntWalk.i64_in _ (by omega)
      have e2 : IntKind.i64.wrap (48 + ((j % 10 : Nat) : Int)) = ((48 + j % 10 : Nat) : Int) := IntWalk.i64_in _ (by omega)
      have e3 : IntKind.i64.wrap ((j : Int).tdiv 10) = ((j / 10 : Nat) : Int) := by
        rw [Int.tdiv_eq_ediv_of_nonneg (by omega)]
        exact IntWalk.i64_in _ (by omega)
      have hst := hid (digs_step hj out)
      have hcv := run_convert_bytes_arg (P := Try.prog) (wr.alloc (.cells #[.int .u8 (48 + (j : Int) % 10)] 5)) 103 5 Try.underlying103 Try.underlying5 wr.heap.size 0 1 1 [48 + (j : Int) % 10] rfl (byte_cell wr j 5) 9 Try.underlying9
      rw [digit_str] at hcv
      go_wp2_with fail
      go_roundw
      case rel => exact ⟨j / 10, _, by go_num, rfl, hid (by rw [hD.out, hst.out]), by rw [ByteArray.size_append]; show 1 + out.size + j / 10 ≤ k; omega, by (repeat (first | with_reducible exact Below.refl _ _ | with_reducible assumption | refine Below.drew ?_ | refine below_drewN ?_ _ | (refine Below.alloc ?_ (by first | omega | (simp; done) | (simp; omega)) _) | (refine Below.setCell ?_ (by first | omega | (simp; done) | (simp; omega)) _) | (refine Below.trans ?_ (Below.mono (by assumption) (by first | omega | (simp; done) | (simp; omega))))))⟩
      case measure => simp [intOf]; omega
    · obtain rfl : j = 0 := by omega
      have hf := hid (show mtxt k = ⟨#[109]⟩ ++ out by unfold mtxt; rw [hD.out, digs_zero])
      go_wp2_with fail
      go_ret
      exact ⟨by rw [hf.out]; rfl, hB⟩

/-- the marks of so many texts -/
def marksT (k0 n : Nat) : List ByteArray := (List.range n).map fun j : Nat => mtxt (k0 + j)
theorem marksT_len (k0 n : Nat) : (marksT k0 n).length = n := by simp [marksT]
theorem marksT_get (k0 n j : Nat) (h : j < (marksT k0 n).length) : (marksT k0 n)[j] = mtxt (k0 + j) := by simp [marksT]
theorem marksT_step (k0 j : Nat) (xs : List Value) (h : j < xs.length) : (strs (marksT k0 j) ++ xs.drop j).set j (.string (mtxt (k0 + j))) = strs (marksT k0 (j + 1)) ++ xs.drop (j + 1) := by
  have e : xs.drop j = xs[j] :: xs.drop (j + 1) := List.drop_eq_getElem_cons h
  rw [e, List.set_append_right _ _ (by simp [strs, marksT])]
  simp [strs, marksT, List.range_succ]
  rw [e]
  rfl
theorem marksT_bound (k0 j : Nat) (xs : List Value) (h : j ≤ xs.length) : (strs (marksT k0 j) ++ xs.drop j).length = xs.length := by
  simp [strs, marksT]; omega

set_option maxHeartbeats 1000000 in
theorem markSt_any (B : Nat) (ao : Option Addr) (n cap : Nat) (xs : List Value) (k0 : Nat) (w : World) (hown : w.ownsRow B 9 1 (.slice ao n cap) n xs) (hm : n ≤ 1048576) (hk0 : 1 ≤ k0) (hk1 : k0 ≤ 536870912) :
    Calls Try.prog 20 #[.slice ao n cap, .int .i64 k0] w fun e w' => e = .returned (.int .i64 ((k0 + n : Nat) : Int)) ∧ w'.ownsRow B 9 1 (.slice ao n cap) n (strs (marksT k0 n)) ∧ w.grownBy w' (Value.slice ao n cap).ownBlock := by
  rcases owns_form hown with ⟨hv, hn0, hx0⟩ | ⟨g, c, hv, hBg, hgl, hnc, hcm⟩
  · subst hn0
    go_enter Try.func20, Try.ntmps20
    go_wp2
    refine wp_loop_rounds 1 ?_
    rw [rounds_succ]
    go_wp2
    go_ret
    refine ⟨ret_int (by omega), ?_, World.grownBy.refl _ _⟩
    rw [hx0] at hown
    exact hown
  · simp only [Value.slice.injEq] at hv
    obtain ⟨rfl, _, rfl⟩ := hv
    have hxl := hid (owns_len hown)
    go_enter Try.func20, Try.ntmps20
    go_wp2
    go_loopw [1, 5] (fun k i wr => ∃ j : Nat, j ≤ n ∧ i = .int .i64 j ∧ k = .int .i64 ((k0 + j : Nat) : Int) ∧ wr.ownsRow B 9 1 (.slice (some ⟨g, 0, none⟩) n cap) n (strs (marksT k0 j) ++ xs.drop j) ∧ w.grownBy wr (some g)) (fun _ i _ => n - (intOf i).toNat)
    case atStart => exact ⟨0, Nat.zero_le _, rfl, by simp, by simpa [marksT, strs] using hown, World.grownBy.refl _ _⟩
    case round =>
      obtain ⟨j, hj, rfl, rfl, ho, hg⟩ := hrel
      by_cases hlt : j < n
      · have hjx : j < xs.length := by rw [hxl.out]; exact hlt
        have hgz := hg.size
        have hgw : g < wr.heap.size := by omega
        have hk0' : (0 : Int) ≤ (j : Int) := by omega
        have hkn : (j : Int) < (n : Int) := by omega
        go_wp2_with fail
        refine (markText_any (k0 + j) _ (by omega) (by omega)).mono ?_
        rintro e w' ⟨rfl, hb⟩
        have ho2 := owns_below ho hb
        obtain ⟨v, hcell⟩ : ∃ v, w'.cell? ⟨g, j, none⟩ = some v := ⟨_, by rw [ho2.cellAt j (by omega), List.getElem?_eq_getElem (by rw [marksT_bound k0 j xs (by omega)]; exact hjx)]⟩
        have hfr := ho2.frozenAt j
        go_wp2_with fail
        go_roundw
        case rel => exact ⟨j + 1, by omega, by go_num, by go_num, by rw [← marksT_step k0 j xs hjx]; exact (ho2.stored j _).1, grownBy_tr hg (grownBy_tr (grown_of_below hb) (ho2.stored j _).2)⟩
        case measure => simp [intOf]; omega
      · obtain rfl : j = n := by omega
        have hd := hid (show xs.drop j = [] from List.drop_eq_nil_of_le (by rw [hxl.out]; omega))
        go_wp2
        go_ret
        refine ⟨rfl, ?_, hg⟩
        have := ho
        rw [hd.out, List.append_nil] at this
        exact this

set_option maxHeartbeats 1000000 in
theorem heldSt_any (ao : Option Addr) (n cap : Nat) (k0 : Nat) (w : World) (hr : Rd w ao (strs (marksT k0 n))) (hm : n ≤ 1048576) (hk0 : 1 ≤ k0) (hk1 : k0 ≤ 536870912) :
    Calls Try.prog 21 #[.slice ao n cap, .int .i64 k0] w fun e w' => e = .returned (.int .i64 ((k0 + n : Nat) : Int)) ∧ Below w.heap.size w w' := by
  have hcase : n = 0 ∨ ∃ b o, ao = some ⟨b, o, none⟩ ∧ b < w.heap.size ∧ ∀ j, j < n → w.cell? ⟨b, o + j, none⟩ = some (.string (mtxt (k0 + j))) := by
    rcases rd_str hr with hr | ⟨b, o, h1, h2, h3⟩
    · left
      have := congrArg List.length hr
      simpa [marksT] using this
    · right
      exact ⟨b, o, h1, h2, fun j hj => by rw [h3 j (by simpa [marksT] using hj), marksT_get]⟩
  clear hr
  rcases hcase with h0 | ⟨b, o, rfl, hbl, hc⟩
  · subst h0
    go_enter Try.func21, Try.ntmps21
    go_wp2
    refine wp_loop_rounds 1 ?_
    rw [rounds_succ]
    go_wp2
    go_ret
    exact ⟨ret_int (by omega), Below.refl _ _⟩
  · have HC := hid hc
    clear hc
    go_enter Try.func21, Try.ntmps21
    go_wp2
    go_loopw [1, 5] (fun k i wr => ∃ j : Nat, j ≤ n ∧ i = .int .i64 j ∧ k = .int .i64 ((k0 + j : Nat) : Int) ∧ Below w.heap.size w wr) (fun _ i _ => n - (intOf i).toNat)
    case atStart => exact ⟨0, Nat.zero_le _, rfl, by simp, Below.refl _ _⟩
    case round =>
      obtain ⟨j, hj, rfl, rfl, hB⟩ := hrel
      by_cases hlt : j < n
      · have h1 := (hB.cell (p := ⟨b, o + j, none⟩) hbl).trans (HC.out j hlt)
        have hbw := Nat.lt_of_lt_of_le hbl hB.size
        have hk0' : (0 : Int) ≤ (j : Int) := by omega
        have hkn : (j : Int) < (n : Int) := by omega
        have hmk := fun w => markText_any (k0 + j) w (by omega) (by omega)
        go_wp2_with fail
        refine wp_region_over (by kernel_rfl) (by kernel_rfl) (fun hov => ?_)
        repeat (go_big_quiet_step (((go_at_call 40; exact overCall (hmk _)))))
        refine wpQuiet_nil ?_
        intro w5 hb5
        clear hov
        go_wp2
        go_roundw
        case rel => exact ⟨j + 1, by omega, by go_num, by go_num, hB.trans (hb5.mono hB.size)⟩
        case measure => simp [intOf]; omega
      · obtain rfl : j = n := by omega
        go_wp2
        go_ret
        exact ⟨rfl, hB⟩
end Go.Proofs.Ytnjdoedhhpkjhaa
