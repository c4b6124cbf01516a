/-
  Walks: is a layout valid?
-/
import Derived.Test.YtaaffcffelkcdaaLayB
import Derived.Test.YtaaffcffelkcdaaArr
namespace Go.Proofs.Ytaaffcffelkcdaa
open Go.RowKit Go.ChangeShapes Go.WideShapes
set_option linter.unusedVariables false
attribute [local go_sem ↓] Go.wp_at_zero Go.wp_at_succ

def inB (n lo hi : Int) : Bool := decide (lo ≤ n ∧ n ≤ hi)
theorem in_any (n lo hi : Int) (w : World) : Calls Try.prog 57 #[.int .i64 n, .int .i64 lo, .int .i64 hi] w fun e w' => e = .returned (.bool (inB n lo hi)) ∧ w = w' := by
  by_cases h1 : lo ≤ n <;> by_cases h2 : n ≤ hi
  all_goals
    go_enter Try.func57, Try.ntmps57
    go_wp2
    go_ret
    exact ⟨by simp [inB, h1, h2], rfl⟩
theorem in_b {r : Bool} (n lo hi : Int) (w : World) (h : inB n lo hi = r) : Calls Try.prog 57 #[.int .i64 n, .int .i64 lo, .int .i64 hi] w fun e w' => e = .returned (.bool r) ∧ w = w' := by
  subst h; exact in_any n lo hi w
theorem between_any (n lo hi : Int) (w : World) : Calls Try.prog 58 #[.int .i64 n, .int .i64 lo, .int .i64 hi] w fun e w' => e = .returned (.bool (inB n lo hi)) ∧ w = w' := by
  by_cases h1 : lo ≤ n <;> by_cases h2 : n ≤ hi
  all_goals
    go_enter Try.func58, Try.ntmps58
    go_wp2
    go_ret
    exact ⟨by simp [inB, h1, h2], rfl⟩
theorem between_b {r : Bool} (n lo hi : Int) (w : World) (h : inB n lo hi = r) : Calls Try.prog 58 #[.int .i64 n, .int .i64 lo, .int .i64 hi] w fun e w' => e = .returned (.bool r) ∧ w = w' := by
  subst h; exact between_any n lo hi w
theorem inB_yes {n lo hi : Int} (h : lo ≤ n ∧ n ≤ hi) : inB n lo hi = true := decide_eq_true h
theorem inB_no {n lo hi : Int} (h : ¬ (lo ≤ n ∧ n ≤ hi)) : inB n lo hi = false := decide_eq_false h
theorem rp_slash {c : UInt8} (h : (c.toNat : Int) = 47) : rp c = false := by unfold rp; rw [decide_eq_true h]; simp
theorem rp_ok {c : UInt8} (h : gb 33 c = true) (h2 : ¬ (c.toNat : Int) = 47) : rp c = true := by unfold rp; rw [h, decide_eq_false h2]; rfl

set_option maxRecDepth 100000 in
set_option maxHeartbeats 8000000 in
theorem lay_any (ao : Option Addr) (n cap : Nat) (rows : List ByteArray) (w : World) (hn : n = rows.length) (hr : Rd w ao (strs rows)) (hs : ∀ x ∈ rows, x.size ≤ maxLen) (hm : n ≤ 1048576) :
    Calls Try.prog 40 #[.agg #[.slice ao n cap]] w fun e w' => e = .returned (.bool (layOk rows)) ∧ Below w.heap.size w w' := by
  have HN := hid hn
  have hrd := rd_str hr
  clear hn hr
  by_cases h14 : (1 : Int) ≤ (n : Int) ∧ (n : Int) ≤ 4
  case neg =>
    have hbad := hid (lay_len (rows := rows) (by rw [← HN.out]; omega))
    have hib := inB_no h14
    have HIB := hid hib
    clear hib h14
    go_enter Try.func40, Try.ntmps40
    go_wp2_with (go_at_call 58; refine (between_b _ _ _ _ HIB.out).mono ?_; rintro e w' ⟨rfl, rfl⟩)
    go_ret
    exact ⟨ret_bool hbad.out.symm, by (repeat (first | with_reducible exact Below.refl _ _ | with_reducible assumption | refine Below.drew ?_ | refine below_drewN ?_ _ | (refine Below.alloc ?_ (by first | omega | (simp; done) | (simp; omega)) _) | (refine Below.setCell ?_ (by first | omega | (simp; done) | (simp; omega)) _) | (refine Below.trans ?_ (Below.mono (by assumption) (by first | omega | (simp; done) | (simp; omega))))))⟩
  have HIB := hid (inB_yes h14)
  have hall := hid (fun h => (lay_all (rows := rows) h).trans (by rw [← HN.out, decide_eq_true (show 1 ≤ n by omega), decide_eq_true (show n ≤ 4 by omega)]))
  clear h14
  have hzv := zero256
  have hsv := store256a
  have hzs := zb_size
  go_enter Try.func40, Try.ntmps40
  go_wp2_with (go_at_call 58; refine (between_b _ _ _ _ HIB.out).mono ?_; rintro e w' ⟨rfl, rfl⟩)
  clear hzv hsv hzs
  have hH0 : HoldsM ((w.alloc (.cells #[.slice ao n cap] 28)).alloc (.cells zb256 62)) w.heap.size (w.heap.size + 1) (List.replicate 256 false) := by
    have := holds_new (w.alloc (.cells #[.slice ao n cap] 28)) w.heap.size (by simp)
    have e : (w.alloc (.cells #[.slice ao n cap] 28)).heap.size = w.heap.size + 1 := by simp
    rwa [e] at this
  go_loopw [5, 6, 16] (fun _ _ i wr => ∃ (k : Nat) (ms : List Bool), k ≤ n ∧ i = .int .i64 k ∧ NoneUpTo (badRow rows) k ∧ HoldsM wr w.heap.size (w.heap.size + 1) ms ∧ SeenTo rows k 0 ms ∧ Below w.heap.size w wr) (fun _ _ i _ => n - (intOf i).toNat)
  case atStart => exact ⟨0, _, Nat.zero_le _, rfl, none_zero _, hH0, seen_zero _, by (repeat (first | with_reducible exact Below.refl _ _ | with_reducible assumption | refine Below.drew ?_ | refine below_drewN ?_ _ | (refine Below.alloc ?_ (by first | omega | (simp; done) | (simp; omega)) _) | (refine Below.setCell ?_ (by first | omega | (simp; done) | (simp; omega)) _) | (refine Below.trans ?_ (Below.mono (by assumption) (by first | omega | (simp; done) | (simp; omega))))))⟩
  case round =>
    clear hH0
    obtain ⟨k, ms0, hk, rfl, hN, hH0, hS0, hB⟩ := hrel
    have hz := hB.size
    by_cases hlt : k < n
    · rcases hrd with hnil | ⟨g, o, rfl, hbl, hcell⟩
      · exact absurd (by rw [HN.out, hnil]; rfl : n = 0) (by omega)
      have hkl : k < rows.length := by rw [← HN.out]; exact hlt
      have hra := rowAt_get hkl
      have g1 := (hB.cell (p := ⟨g, o + k, none⟩) hbl).trans (hcell k hkl)
      have hs1 := hs _ (List.getElem_mem hkl)
      rw [← hra] at g1 hs1
      clear hra
      have hk0 : (0 : Int) ≤ (k : Int) := by omega
      have hkn : (k : Int) < (n : Int) := by omega
      have hbad := hid (fun h => lay_bad hkl hN h)
      have hbrow := hid (fun h => badRow_row (rows := rows) (r := k) h)
      have hbhit := hid (fun c (hc : c < (rowAt rows k).size) hM h => badRow_hit (rows := rows) (r := k) hc hM h)
      have hbok := hid (fun h hM => badRow_ok (rows := rows) (r := k) h hM)
      have hnew := hid (fun c ms (h : SeenTo rows k c ms) (hc : c < (rowAt rows k).size) hm => seen_new hkl h hc hm)
      have hold := hid (fun c ms (h : SeenTo rows k c ms) (hc : c < (rowAt rows k).size) hm => seen_old h hc hm)
      have hnext := hid (fun c ms (h : SeenTo rows k c ms) (hc : c < (rowAt rows k).size) => seen_next h hc)
      have hrow := hid (fun ms (h : SeenTo rows k (rowAt rows k).size ms) => seen_row h)
      obtain ⟨x, hx⟩ : ∃ x, x = rowAt rows k := ⟨_, rfl⟩
      rw [← hx] at g1 hs1 hbrow hbhit hbok hnew hold hnext hrow
      clear hx
      have hs1' := hs1
      unfold maxLen at hs1'
      by_cases hz0 : x.size = 0
      · have hb := hid (hbad.out (hbrow.out (row_len (by omega))))
        have e1 : ((x.size : Int) == 0) = true := eqI_true (by omega)
        clear hz0
        go_wp2
        go_ret
        exact ⟨ret_bool hb.out.symm, hB⟩
      have e1 : ((x.size : Int) == 0) = false := eqI_false (by omega)
      have hx1 : 1 ≤ x.size := by omega
      clear hz0
      cases htx : textB x 33 12
      · have hb := hid (hbad.out (hbrow.out (row_text htx)))
        go_wp2_with (go_at_call 50; refine (isText_b _ _ _ _ hs1 (by omega) (by omega) htx).mono ?_; rintro e w' ⟨rfl, rfl⟩)
        go_ret
        exact ⟨ret_bool hb.out.symm, hB⟩
      obtain ⟨hgb, hx12⟩ := text_row htx
      have HGB := hid hgb
      clear hgb
      go_wp2_with (go_at_call 50; refine (isText_b _ _ _ _ hs1 (by omega) (by omega) htx).mono ?_; rintro e w' ⟨rfl, rfl⟩)
      clear htx e1
      go_loopw [6, 30] (fun _ i wr2 => ∃ (c : Nat) (ms : List Bool), c ≤ x.size ∧ i = .int .i64 c ∧ UpTo rp x c ∧ NoneUpTo (badC rows k) c ∧ HoldsM wr2 w.heap.size (w.heap.size + 1) ms ∧ SeenTo rows k c ms ∧ Below w.heap.size w wr2) (fun _ i _ => x.size - (intOf i).toNat)
      case atStart => exact ⟨0, ms0, Nat.zero_le _, rfl, upto_zero _ _, none_zero _, hH0, hS0, hB⟩
      case round =>
        clear hH0 hS0 hB hz g1
        obtain ⟨c, ms, hc, rfl, hU, hM, hH, hS, hB⟩ := hrel
        have hz := hB.size
        by_cases hcl : c < x.size
        · have hc0 : (0 : Int) ≤ (c : Int) := by omega
          have hcn : (c : Int) < (x.size : Int) := by omega
          have hb256 : x[c].toNat < 256 := UInt8.toNat_lt _
          have hi0 : (0 : Int) ≤ ((x[c].toNat : Nat) : Int) := by omega
          have hi1 : ((x[c].toNat : Nat) : Int) < 256 := by omega
          by_cases h47 : ((x[c].toNat : Nat) : Int) = 47
          · have hb := hid (hbad.out (hbrow.out (row_bad hcl (rp_slash h47))))
            have e2 := eqI_true h47
            clear h47
            go_wp2
            go_ret
            exact ⟨ret_bool hb.out.symm, hB⟩
          have hU2 := hid (upto_next hcl (rp_ok (HGB.out c hcl) h47) hU)
          have e2 := eqI_false h47
          clear h47
          have hcm := hH.cell hb256
          have hfz := hH.frozen x[c].toNat
          cases hmk : marked ms x[c].toNat
          · have hM2 := hid (none_next hM (hnew.out c ms hS hcl hmk))
            have hS2 := hid (hnext.out c ms hS hcl)
            rw [hmk] at hcm
            clear hmk
            go_wp2
            go_roundw
            case rel => exact ⟨c + 1, _, by omega, by go_num, hU2.out, hM2.out, hH.store _ true, hS2.out, hB.setCell (by simp) _⟩
            case measure => simp [intOf]; omega
          · have hb := hid (hbad.out (hbhit.out c hcl hM (hold.out c ms hS hcl hmk)))
            rw [hmk] at hcm
            clear hmk
            go_wp2
            go_ret
            exact ⟨ret_bool hb.out.symm, hB⟩
        · obtain rfl : c = x.size := by omega
          have hgood := hid (none_next hN (hbok.out (row_upto hU hx1 hx12) hM))
          have hS2 := hid (hrow.out ms hS)
          go_wp2
          go_roundw
          case rel => exact ⟨k + 1, ms, by omega, by go_num, hgood.out, hH, hS2.out, hB⟩
          case measure => simp [intOf]; omega
    · obtain rfl : k = n := by omega
      have ha := hid (hall.out (by rw [← HN.out]; exact hN))
      go_wp2
      go_ret
      exact ⟨ret_bool ha.out.symm, hB⟩

/-- one sign from 33 to 126 -/
def sgB (x : ByteArray) : Bool := decide (x.size = 1) && textB x 33 1
theorem sgB_one {x : ByteArray} (h : x.size = 1) : sgB x = gb 33 (x[0]'(by omega)) := by
  have hlen : x.data.toList.length = 1 := by rw [Array.length_toList]; exact h
  obtain ⟨c, hc⟩ := List.length_eq_one_iff.1 hlen
  have he : x[0]'(by omega) = c := by
    have e : x.data.toList[0]'(by omega) = c := by simp only [hc, List.getElem_cons_zero]
    rw [← e, Array.getElem_toList]; rfl
  unfold sgB textB
  rw [he, hc, h]
  simp
set_option maxHeartbeats 1000000 in
theorem sLetter_any (x : ByteArray) (w : World) (hx : x.size ≤ maxLen) : Calls Try.prog 37 #[.string x] w fun e w' => e = .returned (.bool (sgB x)) ∧ w = w' := by
  have hx' := hx
  unfold maxLen at hx'
  by_cases h1 : x.size = 1
  · have hl := hid (sgB_one h1)
    have h2 : (x.size : Int) = 1 := by omega
    have h0 : 0 < x.size := by omega
    by_cases h3 : (32 : Int) < ((x[0].toNat : Nat) : Int) <;> by_cases h4 : ((x[0].toNat : Nat) : Int) < 127
    all_goals
      go_enter Try.func37, Try.ntmps37
      go_wp2_with fail
      go_ret
      exact ⟨ret_bool (by rw [hl.out]; simp [gb]; omega), rfl⟩
  · have hl := hid (show sgB x = false by simp [sgB, h1])
    have h2 : ((x.size : Int) == 1) = false := by simp; omega
    go_enter Try.func37, Try.ntmps37
    go_wp2_with fail
    go_ret
    exact ⟨ret_bool hl.out.symm, rfl⟩
theorem sLetter_b {r : Bool} (x : ByteArray) (w : World) (hx : x.size ≤ maxLen) (h : sgB x = r) : Calls Try.prog 37 #[.string x] w fun e w' => e = .returned (.bool r) ∧ w = w' := by
  subst h; exact sLetter_any x w hx
theorem sg_part {s : ByteArray} {k : Nat} (h : k < s.size) : sgB (s.extract k (k + 1)) = gb 33 s[k] := by
  have h1 : (s.extract k (k + 1)).size = 1 := by rw [ByteArray.size_extract]; omega
  rw [sgB_one h1]
  congr 1
  show (s.extract k (k + 1)).data[0]'_ = s.data[k]'_
  simp only [ByteArray.data_extract, Array.getElem_extract, Nat.add_zero]
set_option maxHeartbeats 2000000 in
theorem sRow_any (s : ByteArray) (w : World) (hs : s.size ≤ maxLen) : Calls Try.prog 56 #[.string s] w fun e w' => e = .returned (.bool (rowB s)) ∧ w = w' := by
  unfold maxLen at hs
  go_enter Try.func56, Try.ntmps56
  go_wp2_with fail
  go_loop [3] (fun i => ∃ k : Nat, k ≤ s.size ∧ i = .int .i64 k ∧ UpTo rp s k) (fun i => s.size - (intOf i).toNat)
  case atStart => exact ⟨0, Nat.zero_le _, rfl, upto_zero _ _⟩
  case round =>
    obtain ⟨k, hk, rfl, hU⟩ := hrel
    by_cases hlt : k < s.size
    · have hk0 : (0 : Int) ≤ (k : Int) := by omega
      have hkn : (k : Int) < (s.size : Int) := by omega
      have hk1 : (k : Int) + 1 ≤ (s.size : Int) := by omega
      have hps : (s.extract k (k + 1)).size ≤ maxLen := by simp only [ByteArray.size_extract]; unfold maxLen; omega
      have hsg := sg_part hlt
      cases hg : gb 33 s[k]
      · have hb := hid (row_bad hlt (show rp s[k] = false by unfold rp; rw [hg]; rfl))
        rw [hg] at hsg
        have HSG := hid hsg
        clear hsg
        go_wp2_with (go_at_call 37; refine (sLetter_b _ _ hps HSG.out).mono ?_; rintro e w' ⟨rfl, rfl⟩)
        go_ret
        exact ⟨ret_bool hb.out.symm, rfl⟩
      rw [hg] at hsg
      have HSG := hid hsg
      clear hsg
      by_cases h47 : ((s[k].toNat : Nat) : Int) = 47
      · have hb := hid (row_bad hlt (rp_slash h47))
        have e2 := eqI_true h47
        clear h47
        go_wp2_with (go_at_call 37; refine (sLetter_b _ _ hps HSG.out).mono ?_; rintro e w' ⟨rfl, rfl⟩)
        go_ret
        exact ⟨ret_bool hb.out.symm, rfl⟩
      · have hU2 := hid (upto_next hlt (rp_ok hg h47) hU)
        have e2 := eqI_false h47
        clear h47
        go_wp2_with (go_at_call 37; refine (sLetter_b _ _ hps HSG.out).mono ?_; rintro e w' ⟨rfl, rfl⟩)
        go_round
        case rel => exact ⟨k + 1, by omega, by go_num, hU2.out⟩
        case measure => simp [intOf]; omega
    · obtain rfl : k = s.size := by omega
      by_cases h12 : (1 : Int) ≤ (s.size : Int) ∧ (s.size : Int) ≤ 12
      · have hr := hid (row_upto hU (by omega) (by omega))
        have hib := hid (inB_yes h12)
        clear h12
        go_wp2_with (go_at_call 57; refine (in_b _ _ _ _ hib.out).mono ?_; rintro e w' ⟨rfl, rfl⟩)
        go_ret
        exact ⟨ret_bool hr.out.symm, rfl⟩
      · have hr := hid (row_len (s := s) (by omega))
        have hib := hid (inB_no h12)
        clear h12
        go_wp2_with (go_at_call 57; refine (in_b _ _ _ _ hib.out).mono ?_; rintro e w' ⟨rfl, rfl⟩)
        go_ret
        exact ⟨ret_bool hr.out.symm, rfl⟩
theorem sRow_b {r : Bool} (s : ByteArray) (w : World) (hs : s.size ≤ maxLen) (h : rowB s = r) : Calls Try.prog 56 #[.string s] w fun e w' => e = .returned (.bool r) ∧ w = w' := by
  subst h; exact sRow_any s w hs

/-- a layout behind a pointer -/
structure LyAt (w : World) (pb po : Nat) (ao : Option Addr) (n cap : Nat) : Prop where
  lt : pb < w.heap.size
  c0 : w.cell? ⟨pb, po, none⟩ = some (.slice ao n cap)
theorem LyAt.below {w w' : World} {B pb po : Nat} {ao : Option Addr} {n cap : Nat} (h : LyAt w pb po ao n cap) (hb : Below B w w') (hB : pb < B) (hz : w.heap.size ≤ w'.heap.size) : LyAt w' pb po ao n cap :=
  ⟨Nat.lt_of_lt_of_le h.lt hz, (hb.cell (p := ⟨pb, po, none⟩) hB).trans h.c0⟩
theorem LyAt.drewN {w : World} {pb po : Nat} {ao : Option Addr} {n cap : Nat} (h : LyAt w pb po ao n cap) (m : Nat) : LyAt (w.drewN m) pb po ao n cap := ⟨h.lt, h.c0⟩
theorem lyAt_new (w : World) (ao : Option Addr) (n cap : Nat) (t : TypeId) : LyAt (w.alloc (.cells #[.slice ao n cap] t)) w.heap.size 0 ao n cap := ⟨by simp, by simp⟩
theorem rd_drewN {w : World} {ao : Option Addr} {xs : List Value} (h : Rd w ao xs) (m : Nat) : Rd (w.drewN m) ao xs := h

set_option maxRecDepth 100000 in
set_option maxHeartbeats 8000000 in
theorem sLay_any (pb po : Nat) (ao : Option Addr) (n cap : Nat) (rows : List ByteArray) (w : World) (hw : LyAt w pb po ao n cap) (hn : n = rows.length) (hr : Rd w ao (strs rows)) (hs : ∀ x ∈ rows, x.size ≤ maxLen) (hm : n ≤ 1048576) :
    Calls Try.prog 36 #[.pointer (some ⟨pb, po, none⟩)] w fun e w' => e = .returned (.bool (layOk rows)) ∧ Below w.heap.size w w' := by
  have HN := hid hn
  have hrd := rd_str hr
  obtain ⟨hpl, p0⟩ := hw
  clear hn
  go_enter Try.func36, Try.ntmps36
  go_wp2_with fail
  go_loopw [3] (fun i wr => ∃ k : Nat, k ≤ n ∧ i = .int .i64 k ∧ NoneUpTo (badRow rows) k ∧ Below w.heap.size w wr) (fun i _ => n - (intOf i).toNat)
  case atStart => exact ⟨0, Nat.zero_le _, rfl, none_zero _, Below.refl _ _⟩
  case round =>
    obtain ⟨k, hk, rfl, hN, hB⟩ := hrel
    have hz := hB.size
    have q0 := (hB.cell (p := ⟨pb, po, none⟩) hpl).trans p0
    by_cases hlt : k < n
    · rcases hrd with hnil | ⟨g, o, rfl, hbl, hcell⟩
      · exact absurd (by rw [HN.out, hnil]; rfl : n = 0) (by omega)
      have hkl : k < rows.length := by rw [← HN.out]; exact hlt
      have hra := rowAt_get hkl
      have G0 := hcell k hkl
      have g1 := (hB.cell (p := ⟨g, o + k, none⟩) hbl).trans G0
      have hs1 := hs _ (List.getElem_mem hkl)
      rw [← hra] at g1 hs1 G0
      clear hra
      have hk0 : (0 : Int) ≤ (k : Int) := by omega
      have hkn : (k : Int) < (n : Int) := by omega
      have hbad := hid (fun h => lay_bad hkl hN h)
      have hbrow := hid (fun h => badRow_row (rows := rows) (r := k) h)
      have hbhit := hid (fun c (hc : c < (rowAt rows k).size) hM h => badRow_hit (rows := rows) (r := k) hc hM h)
      have hbok := hid (fun h hM => badRow_ok (rows := rows) (r := k) h hM)
      have hbget := hid (fun c (hc : c < (rowAt rows k).size) => badC_get (rows := rows) (r := k) hc)
      obtain ⟨x, hx⟩ : ∃ x, x = rowAt rows k := ⟨_, rfl⟩
      rw [← hx] at g1 hs1 hbrow hbhit hbok hbget G0
      clear hx
      have GG := hid G0
      clear G0
      have hs1' := hs1
      unfold maxLen at hs1'
      cases hrow : rowB x
      · have hb := hid (hbad.out (hbrow.out hrow))
        go_wp2_with (go_at_call 56; refine (sRow_b _ _ hs1 hrow).mono ?_; rintro e w' ⟨rfl, rfl⟩)
        go_ret
        exact ⟨ret_bool hb.out.symm, hB⟩
      go_wp2_with (go_at_call 56; refine (sRow_b _ _ hs1 hrow).mono ?_; rintro e w' ⟨rfl, rfl⟩)
      have HROW := hid hrow
      clear hrow q0 g1
      go_loopw [4, 5, 6] (fun i _ _ wr2 => ∃ c : Nat, c ≤ x.size ∧ i = .int .i64 c ∧ NoneUpTo (badC rows k) c ∧ Below w.heap.size w wr2) (fun i _ _ _ => x.size - (intOf i).toNat)
      case atStart => exact ⟨0, Nat.zero_le _, rfl, none_zero _, hB⟩
      case round =>
        clear hB hz
        obtain ⟨c, hc, rfl, hM, hB⟩ := hrel
        have hz := hB.size
        have q0 := (hB.cell (p := ⟨pb, po, none⟩) hpl).trans p0
        have g1 := (hB.cell (p := ⟨g, o + k, none⟩) hbl).trans GG.out
        have hrw := rd_below hr hB
        by_cases hcl : c < x.size
        · have hc0 : (0 : Int) ≤ (c : Int) := by omega
          have hcn : (c : Int) < (x.size : Int) := by omega
          have hbg := hid (hbget.out c hcl)
          have hcont := hid (fun h => none_next hM (hbg.out.trans h))
          have hstop := hid (fun h => hbad.out (hbhit.out c hcl hM (hbg.out.trans h)))
          cases hsp : spotOf rows x[c] with
          | none =>
            have hb := hid (hstop.out (by rw [hsp]; rfl))
            have HSP := hid hsp
            clear hsp
            have e1 : ((-1 : Int) != (k : Int)) = true := neI_true (by omega)
            go_wp2_with fail
            go_quiet ((go_at_call 38; exact qs (sAt_none _ n cap rows x[c] _ HN.out (rd_drewN hrw _) hs hm HSP.out)))
            go_wp2
            go_ret
            exact ⟨ret_bool hb.out.symm, below_drewN hB _⟩
          | some rc =>
            obtain ⟨r, c2⟩ := rc
            have HSP := hid hsp
            by_cases he : r = k ∧ c2 = c
            · obtain ⟨rfl, rfl⟩ := he
              have hnx := hid (hcont.out (by rw [hsp]; simp))
              clear hsp
              have e1 : ((r : Int) != (r : Int)) = false := neI_false rfl
              have e2 : ((c2 : Int) != (c2 : Int)) = false := neI_false rfl
              go_wp2_with fail
              go_quiet ((go_at_call 38; exact qs (sAt_some _ n cap rows x[c2] _ HN.out (rd_drewN hrw _) hs hm HSP.out)))
              go_wp2
              go_roundw
              case rel => exact ⟨c2 + 1, by omega, by go_num, hnx.out, below_drewN hB _⟩
              case measure => simp [intOf]; omega
            · have hb := hid (hstop.out (by
                rw [hsp]
                have : ((some (r, c2) : Option (Nat × Nat)) == some (k, c)) = false := by
                  rw [beq_eq_false_iff_ne]
                  intro e
                  simp only [Option.some.injEq, Prod.mk.injEq] at e
                  exact he e
                rw [this]; rfl))
              clear hsp
              by_cases hrk : (r : Int) = (k : Int)
              · have e1 : ((r : Int) != (k : Int)) = false := neI_false hrk
                have e2 : ((c2 : Int) != (c : Int)) = true := neI_true (fun e => he ⟨by omega, by omega⟩)
                clear hrk he
                go_wp2_with fail
                go_quiet ((go_at_call 38; exact qs (sAt_some _ n cap rows x[c] _ HN.out (rd_drewN hrw _) hs hm HSP.out)))
                go_wp2
                go_ret
                exact ⟨ret_bool hb.out.symm, below_drewN hB _⟩
              · have e1 : ((r : Int) != (k : Int)) = true := neI_true hrk
                clear hrk he
                go_wp2_with fail
                go_quiet ((go_at_call 38; exact qs (sAt_some _ n cap rows x[c] _ HN.out (rd_drewN hrw _) hs hm HSP.out)))
                go_wp2
                go_ret
                exact ⟨ret_bool hb.out.symm, below_drewN hB _⟩
        · obtain rfl : c = x.size := by omega
          have hgood := hid (none_next hN (hbok.out HROW.out hM))
          go_wp2
          go_roundw
          case rel => exact ⟨k + 1, by omega, by go_num, hgood.out, hB⟩
          case measure => simp [intOf]; omega
    · obtain rfl : k = n := by omega
      have ha := hid (lay_all (rows := rows) (by rw [← HN.out]; exact hN))
      by_cases h14 : (1 : Int) ≤ (k : Int) ∧ (k : Int) ≤ 4
      · have hib := hid (inB_yes h14)
        have hr2 := hid (show layOk rows = true by rw [ha.out, ← HN.out, decide_eq_true (show 1 ≤ k by omega), decide_eq_true (show k ≤ 4 by omega)]; rfl)
        clear h14
        go_wp2_with (go_at_call 57; refine (in_b _ _ _ _ hib.out).mono ?_; rintro e w' ⟨rfl, rfl⟩)
        go_ret
        exact ⟨ret_bool hr2.out.symm, hB⟩
      · have hib := hid (inB_no h14)
        have hr2 := hid (lay_len (rows := rows) (by rw [← HN.out]; omega))
        clear h14
        go_wp2_with (go_at_call 57; refine (in_b _ _ _ _ hib.out).mono ?_; rintro e w' ⟨rfl, rfl⟩)
        go_ret
        exact ⟨ret_bool hr2.out.symm, hB⟩
end Go.Proofs.Ytaaffcffelkcdaa
