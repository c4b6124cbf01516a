/-
  Walks of the ribbon functions over a text: shades and the palest letter.
-/
import Derived.Test.YtkiegcjlomppdaaRibH
import Derived.Test.YtkiegcjlomppdaaFind
namespace Go.Proofs.Ytkiegcjlomppdaa
open Go.RowKit
set_option linter.unusedVariables false

/-- the code of a ribbon, strokes and a text -/
def textC (s i t n : Int) (x : ByteArray) : Int := if codeR s i t n = 0 then if textB x 32 100 = true then 0 else 2 else codeR s i t n
theorem text_cases (s i t n : Int) (x : ByteArray) : (textC s i t n x = 0 ∧ okB s i t = true ∧ inB n 0 100000 = true ∧ textB x 32 100 = true ∧ 2 ≤ s ∧ s ≤ 200 ∧ 1 ≤ i ∧ i ≤ 1000 ∧ 1 ≤ t ∧ t ≤ 1000 ∧ 0 ≤ n ∧ n ≤ 100000 ∧ x.size ≤ 100 ∧ codeR s i t n = 0) ∨
    (textC s i t n x = 2 ∧ okB s i t = true ∧ inB n 0 100000 = true ∧ textB x 32 100 = false ∧ codeR s i t n = 0) ∨ (textC s i t n x = 2 ∧ okB s i t = true ∧ inB n 0 100000 = false ∧ codeR s i t n = 2) ∨ (textC s i t n x = 1 ∧ okB s i t = false ∧ codeR s i t n = 1) := by
  rcases code_cases s i t n with ⟨h0, h1, h2, a1, a2, a3, a4, a5, a6, a7, a8⟩ | ⟨h0, h1, h2⟩ | ⟨h0, h1⟩
  · cases h3 : textB x 32 100
    · exact .inr (.inl ⟨by simp [textC, h0, h3], h1, h2, rfl, h0⟩)
    · refine .inl ⟨by simp [textC, h0, h3], h1, h2, rfl, a1, a2, a3, a4, a5, a6, a7, a8, ?_, h0⟩
      simp only [textB, Bool.and_eq_true, decide_eq_true_eq] at h3
      omega
  · exact .inr (.inr (.inl ⟨by simp [textC, h0], h1, h2, h0⟩))
  · exact .inr (.inr (.inr ⟨by simp [textC, h0], h1, h0⟩))

theorem sTextC_any (s i t n : Int) (x : ByteArray) (w : World) (hx : x.size ≤ maxLen) : Calls Try.prog 60 #[.agg #[.int .i64 s, .int .i64 i, .int .i64 t], .int .i64 n, .string x] w fun e w' => e = .returned (.int .i64 (textC s i t n x)) ∧ Below w.heap.size w w' := by
  rcases text_cases s i t n x with ⟨h0, h1, h2, h3, _, _, _, _, _, _, _, _, _, h4⟩ | ⟨h0, h1, h2, h3, h4⟩ | ⟨h0, h1, h2, h4⟩ | ⟨h0, h1, h4⟩
  all_goals
    go_enter Try.func60, Try.ntmps60
    go_wp2_with (first | (go_at_call 46; refine (code_any _ _ _ _ _).mono ?_; rintro e w' ⟨rfl, hb⟩; obtain ⟨hc, hf, hz⟩ := bcell hb; have hl : w.heap.size < w'.heap.size := Nat.lt_of_lt_of_le (by first | assumption | (simp; done) | (simp; omega)) hz) | (go_at_call 68; refine (sText_any _ _ _ hx).mono ?_; rintro e w' ⟨rfl, rfl⟩))
    go_ret
    refine ⟨ret_int (by simp [h0]), ?_⟩
    (repeat (first | with_reducible exact Below.refl _ _ | with_reducible assumption | refine Below.drew ?_ | refine below_drewN ?_ _ | (refine Below.alloc ?_ (by first | omega | (simp; done) | (simp; omega)) _) | (refine Below.setCell ?_ (by first | omega | (simp; done) | (simp; omega)) _) | (refine Below.trans ?_ (Below.mono (by assumption) (by first | omega | (simp; done) | (simp; omega))))))
theorem shadesCode_any (s i t n : Int) (x : ByteArray) (w : World) (hx : x.size ≤ maxLen) : Calls Try.prog 63 #[.agg #[.int .i64 s, .int .i64 i, .int .i64 t], .int .i64 n, .string x] w fun e w' => e = .returned (.int .i64 (textC s i t n x)) ∧ Below w.heap.size w w' := by
  rcases text_cases s i t n x with ⟨h0, h1, h2, h3, _, _, _, _, _, _, _, _, _, h4⟩ | ⟨h0, h1, h2, h3, h4⟩ | ⟨h0, h1, h2, h4⟩ | ⟨h0, h1, h4⟩
  all_goals
    go_enter Try.func63, Try.ntmps63
    go_wp2_with (first | (go_at_call 16; refine (valid_any _ _ _ _).mono ?_; rintro e w' ⟨rfl, hb⟩; obtain ⟨hc, hf, hz⟩ := bcell hb; have hl : w.heap.size < w'.heap.size := Nat.lt_of_lt_of_le (by first | assumption | (simp; done) | (simp; omega)) hz) | (go_at_call 48; refine (isUse_any _ _).mono ?_; rintro e w' ⟨rfl, rfl⟩) | (go_at_call 69; refine (isText_any _ _ _ _ hx (by omega) (by omega)).mono ?_; rintro e w' ⟨rfl, rfl⟩))
    go_ret
    refine ⟨ret_int (by simp [h0]), ?_⟩
    (repeat (first | with_reducible exact Below.refl _ _ | with_reducible assumption | refine Below.drew ?_ | refine below_drewN ?_ _ | (refine Below.alloc ?_ (by first | omega | (simp; done) | (simp; omega)) _) | (refine Below.setCell ?_ (by first | omega | (simp; done) | (simp; omega)) _) | (refine Below.trans ?_ (Below.mono (by assumption) (by first | omega | (simp; done) | (simp; omega))))))

def shadesL (s i t n : Int) (x : ByteArray) : List Int := if textC s i t n x = 0 then (shRun s i t n x x.size).2 else []
theorem sShadesOf_any (s i t n : Int) (x : ByteArray) (w : World) (hx : x.size ≤ maxLen) : Calls Try.prog 36 #[.agg #[.int .i64 s, .int .i64 i, .int .i64 t], .int .i64 n, .string x] w (RowRet w.heap.size 2 w (i64s (shadesL s i t n x)) (textC s i t n x)) := by
  rcases text_cases s i t n x with ⟨h0, h1, h2, h3, a1, a2, a3, a4, a5, a6, a7, a8, a9, h4⟩ | ⟨h0, h1, h2, h3, h4⟩ | ⟨h0, h1, h2, h4⟩ | ⟨h0, h1, h4⟩
  · go_enter Try.func36, Try.ntmps36
    go_wp2_with (first | (go_at_call 60; refine (sTextC_any _ _ _ _ _ _ hx).mono ?_; rintro e w' ⟨rfl, hb⟩; obtain ⟨hc, hf, hz⟩ := bcell hb; have hl : w.heap.size < w'.heap.size := Nat.lt_of_lt_of_le (by first | assumption | (simp; done) | (simp; omega)) hz) | (go_at_call 62; refine (sShades_any _ _ _ _ _ _ a1 a2 a3 a4 a5 a6 a7 a8 a9).mono ?_; rintro e w2 ⟨ao, cap, rfl, hown, hb2⟩))
    go_ret2
    have hl : shadesL s i t n x = (shRun s i t n x x.size).2 := by simp [shadesL, h0]
    rw [hl, h0]
    exact rowRet_mk (owns_mono hown (by omega)) (by (repeat (first | with_reducible exact Below.refl _ _ | with_reducible assumption | refine Below.drew ?_ | refine below_drewN ?_ _ | (refine Below.alloc ?_ (by first | omega | (simp; done) | (simp; omega)) _) | (refine Below.setCell ?_ (by first | omega | (simp; done) | (simp; omega)) _) | (refine Below.trans ?_ (Below.mono (by assumption) (by first | omega | (simp; done) | (simp; omega)))))))
  all_goals
    go_enter Try.func36, Try.ntmps36
    go_wp2_with (go_at_call 60; refine (sTextC_any _ _ _ _ _ _ hx).mono ?_; rintro e w' ⟨rfl, hb⟩; obtain ⟨hc, hf, hz⟩ := bcell hb; have hl : w.heap.size < w'.heap.size := Nat.lt_of_lt_of_le (by first | assumption | (simp; done) | (simp; omega)) hz)
    go_ret2
    have hl : i64s (shadesL s i t n x) = [] := by simp [shadesL, h0, i64s]
    rw [hl]
    exact ⟨none, 0, by simp [h0], World.ownsRow_nil _ _ _ _, by (repeat (first | with_reducible exact Below.refl _ _ | with_reducible assumption | refine Below.drew ?_ | refine below_drewN ?_ _ | (refine Below.alloc ?_ (by first | omega | (simp; done) | (simp; omega)) _) | (refine Below.setCell ?_ (by first | omega | (simp; done) | (simp; omega)) _) | (refine Below.trans ?_ (Below.mono (by assumption) (by first | omega | (simp; done) | (simp; omega))))))⟩
theorem shadesOf_any (s i t n : Int) (x : ByteArray) (w : World) (hx : x.size ≤ maxLen) : Calls Try.prog 37 #[.agg #[.int .i64 s, .int .i64 i, .int .i64 t], .int .i64 n, .string x] w (RowRet w.heap.size 2 w (i64s (shadesL s i t n x)) (textC s i t n x)) := by
  rcases text_cases s i t n x with ⟨h0, h1, h2, h3, a1, a2, a3, a4, a5, a6, a7, a8, a9, h4⟩ | ⟨h0, h1, h2, h3, h4⟩ | ⟨h0, h1, h2, h4⟩ | ⟨h0, h1, h4⟩
  · go_enter Try.func37, Try.ntmps37
    go_wp2_with (first | (go_at_call 63; refine (shadesCode_any _ _ _ _ _ _ hx).mono ?_; rintro e w' ⟨rfl, hb⟩; obtain ⟨hc, hf, hz⟩ := bcell hb; have hl : w.heap.size < w'.heap.size := Nat.lt_of_lt_of_le (by first | assumption | (simp; done) | (simp; omega)) hz) | (go_at_call 64; refine (shades_any _ _ _ _ _ _ a1 a2 a3 a4 a5 a6 a7 a8 a9).mono ?_; rintro e w2 ⟨ao, cap, rfl, hown, hb2⟩))
    go_ret2
    have hl : shadesL s i t n x = (shRun s i t n x x.size).2 := by simp [shadesL, h0]
    rw [hl, h0]
    exact rowRet_mk (owns_mono hown (by omega)) (by (repeat (first | with_reducible exact Below.refl _ _ | with_reducible assumption | refine Below.drew ?_ | refine below_drewN ?_ _ | (refine Below.alloc ?_ (by first | omega | (simp; done) | (simp; omega)) _) | (refine Below.setCell ?_ (by first | omega | (simp; done) | (simp; omega)) _) | (refine Below.trans ?_ (Below.mono (by assumption) (by first | omega | (simp; done) | (simp; omega)))))))
  all_goals
    go_enter Try.func37, Try.ntmps37
    go_wp2_with (go_at_call 63; refine (shadesCode_any _ _ _ _ _ _ hx).mono ?_; rintro e w' ⟨rfl, hb⟩; obtain ⟨hc, hf, hz⟩ := bcell hb; have hl : w.heap.size < w'.heap.size := Nat.lt_of_lt_of_le (by first | assumption | (simp; done) | (simp; omega)) hz)
    go_ret2
    have hl : i64s (shadesL s i t n x) = [] := by simp [shadesL, h0, i64s]
    rw [hl]
    exact ⟨none, 0, by simp [h0], World.ownsRow_nil _ _ _ _, by (repeat (first | with_reducible exact Below.refl _ _ | with_reducible assumption | refine Below.drew ?_ | refine below_drewN ?_ _ | (refine Below.alloc ?_ (by first | omega | (simp; done) | (simp; omega)) _) | (refine Below.setCell ?_ (by first | omega | (simp; done) | (simp; omega)) _) | (refine Below.trans ?_ (Below.mono (by assumption) (by first | omega | (simp; done) | (simp; omega))))))⟩

/-- is letter k paler than told? -/
def paleB (x : ByteArray) (sh : List Int) (l : Int) (k : Nat) : Bool := if h : k < x.size ∧ k < sh.length then ((x[k].toNat : Int) != 32) && decide (sh[k] < l) else false
def palR (s i t n : Int) (x : ByteArray) (l : Int) : Int × Int := if textC s i t n x = 0 then if inB l 1 i = true then (match firstAt (paleB x (shRun s i t n x x.size).2 l) x.size with | some k => ((k : Int), 0) | none => (0, 3)) else (0, 2) else (0, textC s i t n x)
theorem paleB_blank {x : ByteArray} {sh : List Int} {l : Int} {k : Nat} (h : k < x.size) (h32 : ((x[k].toNat : Int) != 32) = false) : paleB x sh l k = false := by
  unfold paleB; split
  · rw [h32]; rfl
  · rfl
theorem paleB_dark {x : ByteArray} {sh : List Int} {l : Int} {k : Nat} (h : k < x.size) (hs : k < sh.length) (hl : ¬ sh[k] < l) : paleB x sh l k = false := by
  unfold paleB; split
  · simp [hl]
  · rfl
theorem paleB_hit {x : ByteArray} {sh : List Int} {l : Int} {k : Nat} (h : k < x.size) (hs : k < sh.length) (h32 : ((x[k].toNat : Int) != 32) = true) (hl : sh[k] < l) : paleB x sh l k = true := by
  unfold paleB; rw [dif_pos ⟨h, hs⟩, h32]; simp [hl]

set_option maxHeartbeats 2000000 in
theorem sPalest_any (s i t n : Int) (x : ByteArray) (l : Int) (w : World) (hx : x.size ≤ maxLen) : Calls Try.prog 34 #[.agg #[.int .i64 s, .int .i64 i, .int .i64 t], .int .i64 n, .string x, .int .i64 l] w fun e w' => e = .returned (.tuple #[.int .i64 (palR s i t n x l).1, .int .i64 (palR s i t n x l).2]) ∧ Below w.heap.size w w' := by
  rcases text_cases s i t n x with ⟨h0, h1, h2, h3, a1, a2, a3, a4, a5, a6, a7, a8, a9, h4⟩ | ⟨h0, h1, h2, h3, h4⟩ | ⟨h0, h1, h2, h4⟩ | ⟨h0, h1, h4⟩
  · cases h5 : inB l 1 i
    · go_enter Try.func34, Try.ntmps34
      go_wp2_with (first | (go_at_call 60; refine (sTextC_any _ _ _ _ _ _ hx).mono ?_; rintro e w' ⟨rfl, hb⟩; obtain ⟨hc, hf, hz⟩ := bcell hb; have hl : w.heap.size < w'.heap.size := Nat.lt_of_lt_of_le (by first | assumption | (simp; done) | (simp; omega)) hz) | (go_at_call 61; refine (in_any _ _ _ _).mono ?_; rintro e w' ⟨rfl, rfl⟩))
      go_ret2
      refine ⟨by simp [palR, h0, h5], ?_⟩
      (repeat (first | with_reducible exact Below.refl _ _ | with_reducible assumption | refine Below.drew ?_ | refine below_drewN ?_ _ | (refine Below.alloc ?_ (by first | omega | (simp; done) | (simp; omega)) _) | (refine Below.setCell ?_ (by first | omega | (simp; done) | (simp; omega)) _) | (refine Below.trans ?_ (Below.mono (by assumption) (by first | omega | (simp; done) | (simp; omega))))))
    · obtain ⟨sh, hsh⟩ : ∃ sh, sh = (shRun s i t n x x.size).2 := ⟨_, rfl⟩
      have hlen : sh.length = x.size := by rw [hsh]; exact (shRun_bd s i t n x x.size (Nat.le_refl _)).2.2
      have hR := hid (show palR s i t n x l = (match firstAt (paleB x sh l) x.size with | some k => ((k : Int), 0) | none => (0, 3)) by simp [palR, h0, h5, ← hsh])
      have HSH := hid hsh
      have HLEN := hid hlen
      clear hsh hlen
      go_enter Try.func34, Try.ntmps34
      go_wp2_with (first | (go_at_call 60; refine (sTextC_any _ _ _ _ _ _ hx).mono ?_; rintro e w' ⟨rfl, hb⟩; obtain ⟨hc, hf, hz⟩ := bcell hb; have hl : w.heap.size < w'.heap.size := Nat.lt_of_lt_of_le (by first | assumption | (simp; done) | (simp; omega)) hz) | (go_at_call 61; refine (in_any _ _ _ _).mono ?_; rintro e w' ⟨rfl, rfl⟩) | (go_at_call 62; refine (sShades_any _ _ _ _ _ _ a1 a2 a3 a4 a5 a6 a7 a8 a9).mono ?_; rw [← HSH.out]; rintro e w2 ⟨ao, cap, rfl, hown, hb2⟩))
      have hrd := owns_rd hown
      have ho2 : Below w.heap.size w w2 := by (repeat (first | with_reducible exact Below.refl _ _ | with_reducible assumption | refine Below.drew ?_ | refine below_drewN ?_ _ | (refine Below.alloc ?_ (by first | omega | (simp; done) | (simp; omega)) _) | (refine Below.setCell ?_ (by first | omega | (simp; done) | (simp; omega)) _) | (refine Below.trans ?_ (Below.mono (by assumption) (by first | omega | (simp; done) | (simp; omega))))))
      rw [i64s_len, HLEN.out]
      clear hown hb2 hc hf hz hb
      go_loop [12] (fun i => ∃ k : Nat, k ≤ x.size ∧ i = .int .i64 k ∧ NoneUpTo (paleB x sh l) k) (fun i => x.size - (intOf i).toNat)
      case atStart => exact ⟨0, Nat.zero_le _, rfl, none_zero _⟩
      case round =>
        obtain ⟨k, hk, rfl, hN⟩ := hrel
        by_cases hlt : k < x.size
        · have hks : k < sh.length := by rw [HLEN.out]; exact hlt
          have hk0 : (0 : Int) ≤ (k : Int) := by omega
          have hkn : (k : Int) < (x.size : Int) := by omega
          cases hb32 : ((x[k].toNat : Int) != 32)
          · have hp := hid (none_next hN (paleB_blank hlt hb32))
            go_wp2
            go_round
            case rel => exact ⟨k + 1, by omega, by go_num, hp.out⟩
            case measure => simp [intOf]; omega
          · rcases hrd with hnil | ⟨b, o, rfl, hbl, hcell⟩
            · exact absurd (by rw [← HLEN.out, ← i64s_len, hnil]; rfl : x.size = 0) (by omega)
            · obtain ⟨y, hy⟩ : ∃ y, y = sh[k] := ⟨_, rfl⟩
              have hck := hcell k (by rw [i64s_len]; exact hks)
              rw [i64s_get, ← hy] at hck
              have Hy := hid hy
              clear hy hcell
              by_cases hpale : y < l
              · have hp := hid (first_hit hN (paleB_hit hlt hks hb32 (by rw [← Hy.out]; exact hpale)) hlt)
                go_wp2
                go_ret2
                exact ⟨by rw [hR.out, hp.out]; rfl, ho2⟩
              · have hp := hid (none_next hN (paleB_dark hlt hks (by rw [← Hy.out]; exact hpale)))
                go_wp2
                go_round
                case rel => exact ⟨k + 1, by omega, by go_num, hp.out⟩
                case measure => simp [intOf]; omega
        · obtain rfl : k = x.size := by omega
          have hp := hid (first_none hN)
          go_wp2
          go_ret2
          exact ⟨by rw [hR.out, hp.out]; rfl, ho2⟩
  all_goals
    go_enter Try.func34, Try.ntmps34
    go_wp2_with (go_at_call 60; refine (sTextC_any _ _ _ _ _ _ hx).mono ?_; rintro e w' ⟨rfl, hb⟩; obtain ⟨hc, hf, hz⟩ := bcell hb; have hl : w.heap.size < w'.heap.size := Nat.lt_of_lt_of_le (by first | assumption | (simp; done) | (simp; omega)) hz)
    go_ret2
    refine ⟨by simp [palR, h0], ?_⟩
    (repeat (first | with_reducible exact Below.refl _ _ | with_reducible assumption | refine Below.drew ?_ | refine below_drewN ?_ _ | (refine Below.alloc ?_ (by first | omega | (simp; done) | (simp; omega)) _) | (refine Below.setCell ?_ (by first | omega | (simp; done) | (simp; omega)) _) | (refine Below.trans ?_ (Below.mono (by assumption) (by first | omega | (simp; done) | (simp; omega))))))
set_option maxHeartbeats 2000000 in
theorem palest_any (s i t n : Int) (x : ByteArray) (l : Int) (w : World) (hx : x.size ≤ maxLen) : Calls Try.prog 35 #[.agg #[.int .i64 s, .int .i64 i, .int .i64 t], .int .i64 n, .string x, .int .i64 l] w fun e w' => e = .returned (.tuple #[.int .i64 (palR s i t n x l).1, .int .i64 (palR s i t n x l).2]) ∧ Below w.heap.size w w' := by
  rcases text_cases s i t n x with ⟨h0, h1, h2, h3, a1, a2, a3, a4, a5, a6, a7, a8, a9, h4⟩ | ⟨h0, h1, h2, h3, h4⟩ | ⟨h0, h1, h2, h4⟩ | ⟨h0, h1, h4⟩
  · cases h5 : inB l 1 i
    · go_enter Try.func35, Try.ntmps35
      go_wp2_with (first | (go_at_call 63; refine (shadesCode_any _ _ _ _ _ _ hx).mono ?_; rintro e w' ⟨rfl, hb⟩; obtain ⟨hc, hf, hz⟩ := bcell hb; have hl : w.heap.size < w'.heap.size := Nat.lt_of_lt_of_le (by first | assumption | (simp; done) | (simp; omega)) hz) | (go_at_call 45; refine (between_any _ _ _ _).mono ?_; rintro e w' ⟨rfl, rfl⟩))
      go_ret2
      refine ⟨by simp [palR, h0, h5], ?_⟩
      (repeat (first | with_reducible exact Below.refl _ _ | with_reducible assumption | refine Below.drew ?_ | refine below_drewN ?_ _ | (refine Below.alloc ?_ (by first | omega | (simp; done) | (simp; omega)) _) | (refine Below.setCell ?_ (by first | omega | (simp; done) | (simp; omega)) _) | (refine Below.trans ?_ (Below.mono (by assumption) (by first | omega | (simp; done) | (simp; omega))))))
    · obtain ⟨sh, hsh⟩ : ∃ sh, sh = (shRun s i t n x x.size).2 := ⟨_, rfl⟩
      have hlen : sh.length = x.size := by rw [hsh]; exact (shRun_bd s i t n x x.size (Nat.le_refl _)).2.2
      have hR := hid (show palR s i t n x l = (match firstAt (paleB x sh l) x.size with | some k => ((k : Int), 0) | none => (0, 3)) by simp [palR, h0, h5, ← hsh])
      have HSH := hid hsh
      have HLEN := hid hlen
      clear hsh hlen
      go_enter Try.func35, Try.ntmps35
      go_wp2_with (first | (go_at_call 63; refine (shadesCode_any _ _ _ _ _ _ hx).mono ?_; rintro e w' ⟨rfl, hb⟩; obtain ⟨hc, hf, hz⟩ := bcell hb; have hl : w.heap.size < w'.heap.size := Nat.lt_of_lt_of_le (by first | assumption | (simp; done) | (simp; omega)) hz) | (go_at_call 45; refine (between_any _ _ _ _).mono ?_; rintro e w' ⟨rfl, rfl⟩) | (go_at_call 64; refine (shades_any _ _ _ _ _ _ a1 a2 a3 a4 a5 a6 a7 a8 a9).mono ?_; rw [← HSH.out]; rintro e w2 ⟨ao, cap, rfl, hown, hb2⟩))
      have hrd := owns_rd hown
      have ho2 : Below w.heap.size w w2 := by (repeat (first | with_reducible exact Below.refl _ _ | with_reducible assumption | refine Below.drew ?_ | refine below_drewN ?_ _ | (refine Below.alloc ?_ (by first | omega | (simp; done) | (simp; omega)) _) | (refine Below.setCell ?_ (by first | omega | (simp; done) | (simp; omega)) _) | (refine Below.trans ?_ (Below.mono (by assumption) (by first | omega | (simp; done) | (simp; omega))))))
      rw [i64s_len, HLEN.out]
      clear hown hb2 hc hf hz hb
      go_loop [11, 12, 30] (fun _ _ i => ∃ k : Nat, k ≤ x.size ∧ i = .int .i64 k ∧ NoneUpTo (paleB x sh l) k) (fun _ _ i => x.size - (intOf i).toNat)
      case atStart => exact ⟨0, Nat.zero_le _, rfl, none_zero _⟩
      case round =>
        obtain ⟨k, hk, rfl, hN⟩ := hrel
        by_cases hlt : k < x.size
        · have hks : k < sh.length := by rw [HLEN.out]; exact hlt
          have hk0 : (0 : Int) ≤ (k : Int) := by omega
          have hkn : (k : Int) < (x.size : Int) := by omega
          · rcases hrd with hnil | ⟨b, o, rfl, hbl, hcell⟩
            · exact absurd (by rw [← HLEN.out, ← i64s_len, hnil]; rfl : x.size = 0) (by omega)
            · obtain ⟨y, hy⟩ : ∃ y, y = sh[k] := ⟨_, rfl⟩
              have hck := hcell k (by rw [i64s_len]; exact hks)
              rw [i64s_get, ← hy] at hck
              have Hy := hid hy
              clear hy hcell
              cases hb32 : ((x[k].toNat : Int) != 32)
              · have hp := hid (none_next hN (paleB_blank hlt hb32))
                go_wp2
                go_round
                case rel => exact ⟨k + 1, by omega, by go_num, hp.out⟩
                case measure => simp [intOf]; omega
              by_cases hpale : y < l
              · have hp := hid (first_hit hN (paleB_hit hlt hks hb32 (by rw [← Hy.out]; exact hpale)) hlt)
                go_wp2
                go_ret2
                exact ⟨by rw [hR.out, hp.out]; rfl, ho2⟩
              · have hp := hid (none_next hN (paleB_dark hlt hks (by rw [← Hy.out]; exact hpale)))
                go_wp2
                go_round
                case rel => exact ⟨k + 1, by omega, by go_num, hp.out⟩
                case measure => simp [intOf]; omega
        · obtain rfl : k = x.size := by omega
          have hp := hid (first_none hN)
          go_wp2
          go_ret2
          exact ⟨by rw [hR.out, hp.out]; rfl, ho2⟩
  all_goals
    go_enter Try.func35, Try.ntmps35
    go_wp2_with (go_at_call 63; refine (shadesCode_any _ _ _ _ _ _ hx).mono ?_; rintro e w' ⟨rfl, hb⟩; obtain ⟨hc, hf, hz⟩ := bcell hb; have hl : w.heap.size < w'.heap.size := Nat.lt_of_lt_of_le (by first | assumption | (simp; done) | (simp; omega)) hz)
    go_ret2
    refine ⟨by simp [palR, h0], ?_⟩
    (repeat (first | with_reducible exact Below.refl _ _ | with_reducible assumption | refine Below.drew ?_ | refine below_drewN ?_ _ | (refine Below.alloc ?_ (by first | omega | (simp; done) | (simp; omega)) _) | (refine Below.setCell ?_ (by first | omega | (simp; done) | (simp; omega)) _) | (refine Below.trans ?_ (Below.mono (by assumption) (by first | omega | (simp; done) | (simp; omega))))))
end Go.Proofs.Ytkiegcjlomppdaa
