/-
  Walks: the marked letters in ascending order, and one letter put among them.
-/
import Derived.Test.YthhpeanlpikjbaaArr
import Derived.Test.YthhpeanlpikjbaaPre
import Derived.Test.YthhpeanlpikjbaaTextMath
import Derived.Test.YthhpeanlpikjbaaLess
import Derived.Test.YthhpeanlpikjbaaOver
import Derived.Test.YthhpeanlpikjbaaMem2
import Derived.Laws.IdiomStrings
import Derived.BigRegion
import Derived.RegionTactic
namespace Go.Proofs.Ythhpeanlpikjbaa
open Go.RowKit Go.ChangeShapes Go.WideShapes
set_option linter.unusedVariables false
attribute [local go_sem ↓] Go.wp_at_zero Go.wp_at_succ

theorem Try.infoU8 : (Try.prog.info? 5).map (fun i => (i.zero, i.size, i.bytes)) = some (some (.int .u8 0), 1, 1) := by kernel_rfl
def u8s (xs : List Nat) : List Value := xs.map (fun (b : Nat) => Value.int .u8 ((b : Nat) : Int))
theorem u8s_len (xs : List Nat) : (u8s xs).length = xs.length := by simp [u8s]
theorem u8s_snoc (xs : List Nat) (x : Nat) : u8s xs ++ [.int .u8 (x : Int)] = u8s (xs ++ [x]) := by simp [u8s]
def upB (ms : List Bool) (k : Nat) : List Nat := (List.range k).filter (marked ms)
theorem upB_yes {ms : List Bool} {k : Nat} (h : marked ms k = true) : upB ms (k + 1) = upB ms k ++ [k] := by
  unfold upB; rw [List.range_succ, List.filter_append]; simp [h]
theorem upB_no {ms : List Bool} {k : Nat} (h : marked ms k = false) : upB ms (k + 1) = upB ms k := by
  unfold upB; rw [List.range_succ, List.filter_append]; simp [h]
theorem upB_len (ms : List Bool) (k : Nat) : (upB ms k).length ≤ k := by
  have := List.length_filter_le (marked ms) (List.range k)
  rw [List.length_range] at this
  exact this
theorem upB_all (ms : List Bool) : upB ms 256 = bytesOf ms := rfl
theorem asc_cells {w : World} {B g c n : Nat} {ms : List Bool} (h : w.ownsRow B 5 1 (.slice (some ⟨g, 0, none⟩) n c) n (u8s (bytesOf ms))) :
    ∀ j (hj : j < ((bytesOf ms).map UInt8.ofNat).length), w.cell? ((⟨g, 0, none⟩ : Addr).add j) = some (.int .u8 ((((bytesOf ms).map UInt8.ofNat)[j].toNat : Nat) : Int)) := by
  intro j hj
  have hl : (bytesOf ms).length = n := by rw [← u8s_len]; exact owns_len h
  rw [List.length_map] at hj
  have e : ((⟨g, 0, none⟩ : Addr).add j) = ⟨g, j, none⟩ := by unfold Addr.add; split <;> simp_all
  rw [e, h.cellAt j (by omega)]
  rw [List.getElem_map, toNat_of (bytes_lt hj)]
  unfold u8s
  rw [List.getElem?_map, List.getElem?_eq_getElem hj]
  rfl

set_option maxRecDepth 100000 in
set_option maxHeartbeats 4000000 in
theorem asc_any (B g : Nat) (ms : List Bool) (w : World) (hH : HoldsM w B g ms) :
    Calls Try.prog 66 #[.pointer (some ⟨g, 0, none⟩)] w fun e w' => e = .returned (.string (ascB ms)) ∧ Below w.heap.size w w' := by
  obtain ⟨i0, hi, iz0, iz1, iz2⟩ := info_parts Try.infoU8
  have hgl := hH.lt.2
  go_enter Try.func66, Try.ntmps66
  go_wp2_with fail
  have hown0 : (w.alloc (.cells #[] 5)).ownsRow w.heap.size 5 1 (.slice (some ⟨w.heap.size, 0, none⟩) 0 0) 0 [] := by
    have h := World.ownsRow_made (e := 5) (size := 1) (base := w.heap.size) w #[] 0 (by omega) (by unfold maxLen; omega) rfl
    simpa using h
  have hB0 : Below w.heap.size w (w.alloc (.cells #[] 5)) := (Below.refl _ _).alloc (Nat.le_refl _) _
  obtain ⟨w1, hw1⟩ : ∃ w1, w1 = w.alloc (.cells #[] 5) := ⟨_, rfl⟩
  rw [← hw1] at hown0 hB0 ⊢
  clear hw1
  go_loopw [3, 4, 6] (fun v _ i wr => ∃ (k g2 c : Nat), k ≤ 256 ∧ i = .int .i64 k ∧ v = .slice (some ⟨g2, 0, none⟩) (upB ms k).length c ∧ wr.ownsRow w.heap.size 5 1 (.slice (some ⟨g2, 0, none⟩) (upB ms k).length c) (upB ms k).length (u8s (upB ms k)) ∧ Below w.heap.size w wr) (fun _ _ i _ => 256 - (intOf i).toNat)
  case atStart => exact ⟨0, _, 0, Nat.zero_le _, rfl, rfl, hown0, hB0⟩
  case round =>
    clear hown0 hB0
    obtain ⟨k, g2, c, hk, rfl, rfl, hown, hB⟩ := hrel
    have hz := hB.size
    by_cases hlt : k < 256
    · have hk0 : (0 : Int) ≤ (k : Int) := by omega
      have hkn : (k : Int) < 256 := by omega
      have hcm := (hH.below hB).cell hlt
      have hul := upB_len ms k
      have hup1 := hid (fun h => upB_yes (ms := ms) (k := k) h)
      have hup0 := hid (fun h => upB_no (ms := ms) (k := k) h)
      obtain ⟨L, hL⟩ : ∃ L, L = upB ms k := ⟨_, rfl⟩
      rw [← hL] at hown hul hup1 hup0
      rw [← hL]
      clear hL
      cases hmk : marked ms k
      · rw [hmk] at hcm
        have hu := hid (hup0.out hmk)
        clear hmk
        go_wp2
        go_roundw
        case rel => exact ⟨k + 1, g2, c, by omega, by go_num, by rw [hu.out], by rw [hu.out]; exact hown, hB⟩
        case measure => simp [intOf]; omega
      · rw [hmk] at hcm
        have hu := hid (hup1.out hmk)
        clear hmk
        go_wp2_with (at_builtin; refine wpList_append_own _ rfl _ _ 114 rfl w.heap.size 5 i0 (.int .u8 0) 1 1 Try.underlying114 hi iz0 iz1 iz2 rfl (by decide) _ _ _ rfl (hown.alloc _) ⟨wr.heap.size, 0, none⟩ 1 1 [.int .u8 (k : Int)] rfl rfl (one_new _ _ _) (one_ok _ _) (by unfold maxLen; omega) (by omega) (by simp; omega) ?_; intro v' w2 hown3 hgrow3 hnil)
        have hB3 := below_grown (hB.alloc (by omega) _) (by simp; omega) (hown.alloc _) hgrow3
        rcases owns_form hown3 with ⟨hv, hn0, _⟩ | ⟨g3, c3, rfl, _⟩
        · omega
        go_roundw
        case rel =>
          rw [u8s_snoc] at hown3
          exact ⟨k + 1, g3, c3, by omega, by go_num, by rw [hu.out, List.length_append]; rfl, by rw [hu.out, List.length_append]; exact hown3, hB3⟩
        case measure => simp [intOf]; omega
    · obtain rfl : k = 256 := by omega
      rw [upB_all] at hown ⊢
      have hcv := run_convert_bytes_back (P := Try.prog) wr 114 9 5 ⟨g2, 0, none⟩ c ((bytesOf ms).map UInt8.ofNat) Try.underlying114 Try.underlying5 Try.underlying9 (asc_cells hown)
      rw [List.length_map] at hcv
      go_wp2
      go_ret
      exact ⟨rfl, hB⟩

theorem ascB_get {ms : List Bool} {k : Nat} (h : k < (ascB ms).size) : (ascB ms)[k].toNat = (bytesOf ms)[k]'(by rw [← ascB_size]; exact h) := by
  have h2 : k < (bytesOf ms).length := by rw [← ascB_size]; exact h
  have e : (ascB ms)[k] = UInt8.ofNat ((bytesOf ms)[k]'h2) := by
    show ((((bytesOf ms).map UInt8.ofNat).toArray)[k]'(by simpa using h2)) = _
    simp
  rw [e, toNat_of (bytes_lt h2)]
theorem ascB_list (ms : List Bool) : (ascB ms).data.toList = (bytesOf ms).map UInt8.ofNat := rfl
theorem ba_ext {a b : ByteArray} (h : a.data.toList = b.data.toList) : a = b := by
  cases a; cases b; simp at h; simp [h]
theorem asc_put {ms : List Bool} {x : ByteArray} (hx : x.size = 1) {k : Nat} (hl : ms.length = 256) (hlo : ∀ y ∈ (bytesOf ms).take k, y < (x[0]'(by omega)).toNat) (hhi : ∀ y ∈ (bytesOf ms).drop k, (x[0]'(by omega)).toNat < y) :
    (ascB ms).extract 0 k ++ x ++ (ascB ms).extract k (ascB ms).size = ascB (ms.set (x[0]'(by omega)).toNat true) := by
  have hp := bytes_put hl (UInt8.toNat_lt _) hlo hhi
  have e1 := of_one hx
  obtain ⟨c, hc⟩ : ∃ c, c = (x[0]'(by omega)) := ⟨_, rfl⟩
  rw [← hc] at hp e1 ⊢
  apply ba_ext
  rw [ascB_list, ← hp]
  simp only [ByteArray.data_append, Array.toList_append, extract_toList, ascB_list, List.map_append, List.map_take, List.map_drop, List.map_cons, List.map_nil]
  have h2 : x.data.toList = [UInt8.ofNat c.toNat] := by rw [e1]; rfl
  rw [h2]
  have h3 : (ascB ms).size = ((bytesOf ms).map UInt8.ofNat).length := by rw [ascB_size, List.length_map]
  rw [h3, List.take_length]
  simp

theorem asc_none : ascB (List.replicate 256 false) = ⟨#[]⟩ := by unfold ascB; rw [bytes_none]; rfl
theorem one_at {x : ByteArray} {c : Nat} (hc : c < x.size) : ∃ h : (x.extract c (c + 1)).size = 1, (x.extract c (c + 1))[0] = x[c] := by
  have h : (x.extract c (c + 1)).size = 1 := by simp; omega
  exact ⟨h, by simp [ByteArray.getElem_extract]⟩
end Go.Proofs.Ythhpeanlpikjbaa
