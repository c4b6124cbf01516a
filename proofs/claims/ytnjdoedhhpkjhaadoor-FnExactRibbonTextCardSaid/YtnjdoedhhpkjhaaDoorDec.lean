/-
  Numbers as texts: the reference's l01Dec and the program's Decimal (strconv.FormatInt).
-/
import Derived.Test.YtnjdoedhhpkjhaaDoorFiLay
import Derived.Test.YtnjdoedhhpkjhaaDoorRibA
import Derived.Test.YtnjdoedhhpkjhaaDoorMem2
import Derived.Test.YtnjdoedhhpkjhaaDoorAppend
import Derived.Lib.LaidTab
import Derived.Lib.ItoaNum
import Derived.Laws.IdiomStrings
namespace Go.Proofs.YtnjdoedhhpkjhaaDoor
open Go.RowKit Go.ChangeShapes Go.WideShapes
set_option linter.unusedVariables false
attribute [local go_sem ↓] Go.wp_at_zero Go.wp_at_succ

/-- the table of the powers of ten lies where it was laid -/
def Pow (w : World) : Prop := Lib.TabIs Tryd.prog w "internal/strconv.uint64pow10" .u64 Lib.pow10Tab
theorem pow_below {w w' : World} (h : Pow w) (hb : Below w.heap.size w w') : Pow w' := by
  unfold Pow Lib.TabIs World.var? at *
  cases hg : Tryd.prog.globalNamed "internal/strconv.uint64pow10" with
  | none => rw [hg] at h; simp at h
  | some g =>
    rw [hg] at h
    simp only [Option.bind_some] at h ⊢
    have hl : g < w.heap.size := by
      cases hh : w.heap[g]? with
      | none => rw [hh] at h; simp at h
      | some o => exact (Array.getElem?_eq_some_iff.1 hh).1
    rw [hb.block g hl]
    exact h
def decT (n : Nat) : ByteArray := ⟨(Lib.decDigits n).toArray⟩
theorem dec_any (n : Nat) (w : World) (hn : n ≤ 1000000) (hp : Pow w) : Calls Tryd.prog 10 #[.int .i64 (n : Int)] w fun e w' => e = .returned (.string (decT n)) ∧ Below w.heap.size w w' := by
  go_enter Tryd.func10, Tryd.ntmps10
  go_wp2_with (go_at_call 13; refine (shItoa (n : Int) (by omega) (by omega) _ hp).mono ?_; rintro e w' ⟨rfl, k, os, rfl⟩)
  go_ret
  refine ⟨by rw [show Lib.itoa (n : Int) = Lib.decDigits n by unfold Lib.itoa; rw [if_neg (by omega)]; simp]; rfl, ?_⟩
  exact ⟨rfl, rfl, rfl, by rw [Go.Sort.size_grow]; exact Nat.le_add_right _ _, fun i hi => Go.Sort.heap_grow_old (w.drewN k) os hi⟩
/-- the digits so far: what is left of the number, then what has been written -/
def decR (k : Nat) : List UInt8 := if k = 0 then [] else Lib.decDigits k
theorem decR_next {k : Nat} (h : k ≠ 0) : decR k = decR (k / 10) ++ [UInt8.ofNat (48 + k % 10)] := by
  unfold decR
  rw [if_neg h]
  by_cases h10 : k < 10
  · have e : k / 10 = 0 := by omega
    rw [e, if_pos rfl, Lib.decDigits, dif_pos h10]
    have e2 : k % 10 = k := by omega
    rw [e2]; rfl
  · have e : ¬ k / 10 = 0 := by omega
    rw [if_neg e]
    conv => lhs; rw [Lib.decDigits]
    rw [dif_neg h10]
theorem decR_len : ∀ (f k : Nat), k < 10 ^ f → (decR k).length ≤ f
  | 0, k, h => by
    have : k = 0 := by simpa using h
    subst this
    simp [decR]
  | f + 1, k, h => by
    by_cases h0 : k = 0
    · subst h0; simp [decR]
    · rw [decR_next h0, List.length_append]
      have ih := decR_len f (k / 10) (by rw [Nat.pow_succ] at h; omega)
      simp; omega
theorem Tryd.infoU8 : (Tryd.prog.info? 5).map (fun i => (i.zero, i.size, i.bytes)) = some (some (.int .u8 0), 1, 1) := by kernel_rfl
def b8s (L : List UInt8) : List Value := L.map fun b => Value.int .u8 (b.toNat : Int)
theorem b8s_len (L : List UInt8) : (b8s L).length = L.length := by simp [b8s]
theorem b8s_one (L : List UInt8) : ∀ u ∈ b8s L, u.oneCell' = true := fun u hu => by obtain ⟨x, _, rfl⟩ := List.mem_map.1 hu; rfl

set_option maxRecDepth 100000 in
set_option maxHeartbeats 4000000 in
theorem sDec_any (n : Nat) (w : World) (h1 : 1 ≤ n) (hn : n ≤ 1000000) : Calls Tryd.prog 8 #[.int .i64 (n : Int)] w fun e w' => e = .returned (.string (decT n)) ∧ Below w.heap.size w w' := by
  obtain ⟨i0, hi, iz0, iz1, iz2⟩ := info_parts Tryd.infoU8
  have hdn := decR_len 7 n (by omega)
  have HD := hid (show (⟨(decR n).toArray⟩ : ByteArray) = decT n by unfold decR decT; rw [if_neg (by omega)])
  go_enter Tryd.func8, Tryd.ntmps8
  go_wp2_with fail
  have hown0 : (w.alloc (.cells #[] 5)).ownsRow w.heap.size 5 1 (.slice (some ⟨w.heap.size, 0, none⟩) 0 0) 0 [] := by
    have h := World.ownsRow_made (e := 5) (size := 1) (base := w.heap.size) w #[] 0 (by omega) (by unfold maxLen; omega) rfl
    simpa using h
  have hB0 : Below w.heap.size w (w.alloc (.cells #[] 5)) := (Below.refl _ _).alloc (Nat.le_refl _) _
  obtain ⟨w1, hw1⟩ : ∃ w1, w1 = w.alloc (.cells #[] 5) := ⟨_, rfl⟩
  rw [← hw1] at hown0 hB0 ⊢
  clear hw1
  go_loopw [3, 4] (fun v kv wr => ∃ (k g c : Nat) (O : List UInt8), k ≤ n ∧ kv = .int .i64 k ∧ v = .slice (some ⟨g, 0, none⟩) O.length c ∧ wr.ownsRow w.heap.size 5 1 (.slice (some ⟨g, 0, none⟩) O.length c) O.length (b8s O) ∧ Hid (decR k ++ O = decR n) ∧ Below w.heap.size w wr) (fun _ kv _ => (intOf kv).toNat)
  case atStart => exact ⟨n, _, 0, [], Nat.le_refl _, rfl, rfl, hown0, by simp [Hid], hB0⟩
  case round =>
    clear hown0 hB0
    obtain ⟨k, g, c, O, hk, rfl, rfl, hown, hO, hB⟩ := hrel
    have hz := hB.size
    have hOl : O.length ≤ 7 := by
      have := congrArg List.length hO.out
      rw [List.length_append] at this
      omega
    by_cases hk0 : k = 0
    · subst hk0
      have hOn := hid (show O = decR n by have := hO.out; simpa [decR] using this)
      have e0 : ¬ O.length = 0 := by
        rw [hOn.out, decR_next (k := n) (by omega), List.length_append]; simp
      have e1 : ((O.length : Int) == 0) = false := by simpa using e0
      have e2 : ¬ (n : Int) < 0 := by omega
      have hcv := run_convert_bytes_back (P := Tryd.prog) wr 31 9 5 ⟨g, 0, none⟩ c O Tryd.underlying31 Tryd.underlying5 Tryd.underlying9 (fun j hj => hown.cells (g := g) rfl j _ (by simp [b8s, hj]))
      have HR := hid (show (⟨O.toArray⟩ : ByteArray) = decT n by rw [hOn.out, HD.out])
      clear e0
      go_wp2
      go_ret
      exact ⟨by rw [← HR.out]; rfl, hB⟩
    · have e0 : ((k : Int) != 0) = true := by simp; omega
      have hkp : (0 : Int) ≤ (k : Int) := by omega
      have e1 : (k : Int).tmod 10 = ((k % 10 : Nat) : Int) := by rw [Int.tmod_eq_emod_of_nonneg (by omega)]; omega
      have e2 : (k : Int).tdiv 10 = ((k / 10 : Nat) : Int) := by rw [Int.tdiv_eq_ediv_of_nonneg (by omega)]; omega
      have hnx := hid (decR_next hk0)
      obtain ⟨d, hd⟩ : ∃ d, d = k % 10 := ⟨_, rfl⟩
      have hd9 : d < 10 := by omega
      rw [← hd] at e1 hnx
      clear hd
      have hk1 : 0 < k := by omega
      clear hk0
      have e3 : ¬ (d : Int) < 0 := by omega
      have hlit : (wr.alloc (.cells #[.int .u8 (48 + (d : Int))] 5)).ownsRow w.heap.size 5 1 (.slice (some ⟨wr.heap.size, 0, none⟩) 1 1) 1 [.int .u8 (48 + (d : Int))] := World.ownsRow_lit wr #[.int .u8 (48 + (d : Int))] 1 hz (by unfold maxLen; omega) rfl
      have hsrc : SrcOk (wr.alloc (.cells #[.int .u8 (48 + (d : Int))] 5)) 1 (.slice (some ⟨g, 0, none⟩) O.length c) O.length (b8s O) := .inr ⟨⟨g, 0, none⟩, c, rfl, by rw [b8s_len]; omega, (hown.alloc _).cells (g := g) rfl, b8s_one O⟩
      go_wp2_with (at_builtin; refine wpList_append_src rfl _ _ 31 rfl w.heap.size 5 i0 (.int .u8 0) 1 1 Tryd.underlying31 hi iz0 iz1 iz2 rfl (by decide) (.slice (some ⟨wr.heap.size, 0, none⟩) 1 1) 1 [.int .u8 (48 + (d : Int))] rfl hlit (.slice (some ⟨g, 0, none⟩) O.length c) O.length (b8s O) rfl hsrc (by unfold maxLen; omega) (by omega) (by simp; omega) ?_; intro v2 w3 ho3 hg3; rw [Nat.add_comm] at ho3; rcases owns_form ho3 with ⟨_, hn0, _⟩ | ⟨g3, c3, rfl, _⟩; (exact absurd hn0 (Nat.succ_ne_zero _)))
      have hb8 : [Value.int .u8 (48 + (d : Int))] ++ b8s O = b8s (UInt8.ofNat (48 + d) :: O) := by
        have : (UInt8.ofNat (48 + d)).toNat = 48 + d := by rw [UInt8.toNat_ofNat']; omega
        simp only [b8s, List.map_cons, this, List.singleton_append]
        rw [show ((48 + d : Nat) : Int) = 48 + (d : Int) by omega]
      rw [hb8] at ho3
      have hO2 := hid (show decR (k / 10) ++ (UInt8.ofNat (48 + d) :: O) = decR n by rw [← hO.out, hnx.out, List.append_assoc]; rfl)
      go_roundw
      case rel => exact ⟨k / 10, g3, c3, UInt8.ofNat (48 + d) :: O, by omega, by go_num, rfl, ho3, hO2, below_grown (hB.alloc hz _) (by simp; omega) hlit hg3⟩
      case measure => simp [intOf]; omega
end Go.Proofs.YtnjdoedhhpkjhaaDoor
