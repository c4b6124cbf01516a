/-
  Walks: two lists of lessons are the same.
-/
import Derived.Test.YtbfkiopikkolcaaLsB
import Derived.Test.YtbfkiopikkolcaaOver
namespace Go.Proofs.Ytbfkiopikkolcaa
open Go.RowKit Go.ChangeShapes Go.WideShapes
set_option linter.unusedVariables false
attribute [local go_sem ↓] Go.wp_at_zero Go.wp_at_succ

theorem rd_over {w : World} {x : Over w} {ao : Option Addr} {xs : List Value} (h : Rd w ao xs) : Rd (over w x) ao xs := rd_below h x.below
def sameD (x y : LsD) : Bool := (x.1.toList == y.1.toList) && (x.2.1.toList == y.2.1.toList) && sameN x.2.2.1 y.2.2.1 && (x.2.2.2 == y.2.2.2)
def difL (A B : List LsD) (k : Nat) : Bool := if h : k < A.length ∧ k < B.length then !(sameD A[k] B[k]) else false
def sameL (A B : List LsD) : Bool := decide (A.length = B.length) && (firstAt (difL A B) A.length).isNone
theorem difL_get {l M : List Ls} {k : Nat} (h1 : k < l.length) (h2 : k < M.length) : difL (l.map Ls.d) (M.map Ls.d) k = !(sameD l[k].d M[k].d) := by
  unfold difL
  rw [dif_pos ⟨by simpa using h1, by simpa using h2⟩]
  simp
theorem sameL_len {l M : List Ls} (h : ¬ l.length = M.length) : sameL (l.map Ls.d) (M.map Ls.d) = false := by unfold sameL; rw [decide_eq_false (by simpa using h)]; rfl
theorem sameL_hit {l M : List Ls} {k : Nat} (h : k < l.length) (hN : NoneUpTo (difL (l.map Ls.d) (M.map Ls.d)) k) (hk : difL (l.map Ls.d) (M.map Ls.d) k = true) : sameL (l.map Ls.d) (M.map Ls.d) = false := by unfold sameL; rw [first_hit hN hk (by simpa using h)]; simp
theorem sameL_all {l M : List Ls} (h : l.length = M.length) (hN : NoneUpTo (difL (l.map Ls.d) (M.map Ls.d)) l.length) : sameL (l.map Ls.d) (M.map Ls.d) = true := by unfold sameL; rw [decide_eq_true (by simpa using h), first_none (by simpa using hN)]; rfl
theorem sameD_1 {x y : Ls} (h : (x.nm.toList == y.nm.toList) = false) : (!(sameD x.d y.d)) = true := by simp only [sameD, Ls.d, h]; rfl
theorem sameD_2 {x y : Ls} (h : (x.lt.toList == y.lt.toList) = false) : (!(sameD x.d y.d)) = true := by simp only [sameD, Ls.d, h]; simp
theorem sameD_3 {x y : Ls} (h : sameN x.nd y.nd = false) : (!(sameD x.d y.d)) = true := by simp only [sameD, Ls.d, h]; simp
theorem sameD_4 {x y : Ls} (h : ¬ x.hr = y.hr) : (!(sameD x.d y.d)) = true := by simp only [sameD, Ls.d, beq_eq_false_iff_ne.2 h]; simp
theorem sameD_all {x y : Ls} (h1 : (x.nm.toList == y.nm.toList) = true) (h2 : (x.lt.toList == y.lt.toList) = true) (h3 : sameN x.nd y.nd = true) (h4 : x.hr = y.hr) : (!(sameD x.d y.d)) = false := by simp [sameD, Ls.d, h1, h2, h3, h4]
theorem sSame_b {r : Bool} (ao : Option Addr) (n cap : Nat) (a : List Int) (bo : Option Addr) (n2 cap2 : Nat) (b : List Int) (w : World) (hn : n = a.length) (hr : Rd w ao (i64s a)) (hn2 : n2 = b.length) (hr2 : Rd w bo (i64s b)) (hm : n ≤ 1048576) (hm2 : n2 ≤ 1048576) (h : sameN a b = r) :
    Calls Try.prog 39 #[.slice ao n cap, .slice bo n2 cap2] w fun e w' => e = .returned (.bool r) ∧ Below w.heap.size w w' := by rw [← h]; exact sSame_any ao n cap a bo n2 cap2 b w hn hr hn2 hr2 hm hm2
theorem sameNum_b {r : Bool} (ao : Option Addr) (n cap : Nat) (a : List Int) (bo : Option Addr) (n2 cap2 : Nat) (b : List Int) (w : World) (hn : n = a.length) (hr : Rd w ao (i64s a)) (hn2 : n2 = b.length) (hr2 : Rd w bo (i64s b)) (hm : n ≤ 1048576) (hm2 : n2 ≤ 1048576) (h : sameN a b = r) :
    Calls Try.prog 41 #[.slice ao n cap, .slice bo n2 cap2] w fun e w' => e = .returned (.bool r) ∧ Below w.heap.size w w' := by rw [← h]; exact sameNum_any ao n cap a bo n2 cap2 b w hn hr hn2 hr2 hm hm2

set_option maxRecDepth 100000 in
set_option maxHeartbeats 4000000 in
theorem sSameLs_any (ao : Option Addr) (n cap : Nat) (l : List Ls) (bo : Option Addr) (n2 cap2 : Nat) (M : List Ls) (w : World) (ha : LsArg w ao n cap l) (hs : LsSmall l) (hb : LsArg w bo n2 cap2 M) (hs2 : LsSmall M) :
    Calls Try.prog 14 #[.slice ao n cap, .slice bo n2 cap2] w fun e w' => e = .returned (.bool (sameL (l.map Ls.d) (M.map Ls.d))) ∧ Below w.heap.size w w' := by
  obtain ⟨hn, _, hr, hg⟩ := ha
  obtain ⟨hn2, _, hr2, hg2⟩ := hb
  have hm : n ≤ 1048576 := by rw [hn]; exact hs.1
  have hm2 : n2 ≤ 1048576 := by rw [hn2]; exact hs2.1
  have HN := hid hn
  have HN2 := hid hn2
  have HS := hid hs.2
  have HS2 := hid hs2.2
  have HG := hid hg
  have HG2 := hid hg2
  have hrd := rd_ls hr
  have hrd2 := rd_ls hr2
  clear hn hn2 hr hr2 hs hs2 hg hg2
  by_cases hnn : n = n2
  case neg =>
    have hR := hid (sameL_len (l := l) (M := M) (by rw [← HN.out, ← HN2.out]; exact hnn))
    have e1 : ((n : Int) != (n2 : Int)) = true := neI_true (by omega)
    clear hnn
    go_enter Try.func14, Try.ntmps14
    go_wp2
    go_ret
    exact ⟨ret_bool hR.out.symm, Below.refl _ _⟩
  subst hnn
  have hLL := hid (show l.length = M.length by rw [← HN.out, ← HN2.out])
  have e1 : ((n : Int) != (n : Int)) = false := neI_false rfl
  go_enter Try.func14, Try.ntmps14
  go_wp2
  go_loopw [5] (fun i wr => ∃ k : Nat, k ≤ n ∧ i = .int .i64 k ∧ Hid (NoneUpTo (difL (l.map Ls.d) (M.map Ls.d)) k) ∧ Below w.heap.size w wr) (fun i _ => n - (intOf i).toNat)
  case atStart => exact ⟨0, Nat.zero_le _, rfl, hid (none_zero _), Below.refl _ _⟩
  case round =>
    obtain ⟨k, hk, rfl, hNo, hB⟩ := hrel
    by_cases hlt : k < n
    · rcases hrd with hnil | ⟨b, o, rfl, hl1, hcell⟩
      · exact absurd (by rw [HN.out, hnil]; rfl : n = 0) (by omega)
      rcases hrd2 with hnil | ⟨b2, o2, rfl, hl2, hcell2⟩
      · exact absurd (by rw [HN2.out, hnil]; rfl : n = 0) (by omega)
      have hka : k < l.length := by rw [← HN.out]; exact hlt
      have hkb : k < M.length := by rw [← HN2.out]; exact hlt
      obtain ⟨h1, h2, h3, h4⟩ := (hcell k hka).below hB hl1
      obtain ⟨i1, i2, i3, i4⟩ := (hcell2 k hkb).below hB hl2
      have R1 := hid (rd_below (HG.out _ (List.getElem_mem hka)).rd hB)
      have R2 := hid (rd_below (HG2.out _ (List.getElem_mem hkb)).rd hB)
      have hnd := (HS.out _ (List.getElem_mem hka)).2.2
      have hnd2 := (HS2.out _ (List.getElem_mem hkb)).2.2
      have hdf := hid (difL_get hka hkb)
      have hht := hid (fun hN hq => sameL_hit (M := M) hka hN hq)
      obtain ⟨x, hx⟩ : ∃ x, x = l[k] := ⟨_, rfl⟩
      obtain ⟨y, hy⟩ : ∃ y, y = M[k] := ⟨_, rfl⟩
      rw [← hx] at h1 h2 h3 h4 R1 hnd hdf
      rw [← hy] at i1 i2 i3 i4 R2 hnd2 hdf
      clear hx hy hcell hcell2 hka hkb
      obtain ⟨nx, lx, ax, cx, dx, qx⟩ := x
      obtain ⟨ny, ly, ay, cy, dy, qy⟩ := y
      dsimp only at h1 h2 h3 h4 R1 hnd i1 i2 i3 i4 R2 hnd2
      obtain ⟨mx, hmx⟩ : ∃ m, m = dx.length := ⟨_, rfl⟩
      obtain ⟨my, hmy⟩ : ∃ m, m = dy.length := ⟨_, rfl⟩
      rw [← hmx] at h3 hnd
      rw [← hmy] at i3 hnd2
      have HMX := hid hmx
      have HMY := hid hmy
      clear hmx hmy
      have hk0 : (0 : Int) ≤ (k : Int) := by omega
      have hkn : (k : Int) < (n : Int) := by omega
      have z1 := Nat.lt_of_lt_of_le hl1 hB.size
      have z2 := Nat.lt_of_lt_of_le hl2 hB.size
      cases c1 : (nx.toList == ny.toList)
      · have hR := hid (hht.out hNo.out (hdf.out.trans (sameD_1 c1)))
        go_wp2_with fail
        refine wp_region_over (by kernel_rfl) (by kernel_rfl) (fun hov => ?_)
        repeat (go_big_quiet_step ((fail)))
        refine wpQuiet_nil ?_
        intro w5 hb5
        clear hov
        go_wp2
        go_ret
        exact ⟨ret_bool hR.out.symm, hB.trans (hb5.mono hB.size)⟩
      cases c2 : (lx.toList == ly.toList)
      · have hR := hid (hht.out hNo.out (hdf.out.trans (sameD_2 c2)))
        go_wp2_with fail
        refine wp_region_over (by kernel_rfl) (by kernel_rfl) (fun hov => ?_)
        repeat (go_big_quiet_step ((fail)))
        refine wpQuiet_nil ?_
        intro w5 hb5
        clear hov
        go_wp2
        go_ret
        exact ⟨ret_bool hR.out.symm, hB.trans (hb5.mono hB.size)⟩
      cases c3 : sameN dx dy
      · have hR := hid (hht.out hNo.out (hdf.out.trans (sameD_3 c3)))
        have hN3 := hid c3
        clear c3
        go_wp2_with fail
        refine wp_region_over (by kernel_rfl) (by kernel_rfl) (fun hov => ?_)
        repeat (go_big_quiet_step (((go_at_call 39; exact overCall (sSame_b _ mx _ dx _ my _ dy _ HMX.out (rd_over R1.out) HMY.out (rd_over R2.out) hnd hnd2 hN3.out)))))
        refine wpQuiet_nil ?_
        intro w5 hb5
        clear hov
        go_wp2
        go_ret
        exact ⟨ret_bool hR.out.symm, hB.trans (hb5.mono hB.size)⟩
      by_cases c4 : qx = qy
      case neg =>
        have hR := hid (hht.out hNo.out (hdf.out.trans (sameD_4 c4)))
        have e4 := neI_true c4
        have hN3 := hid c3
        clear c3 c4
        go_wp2_with fail
        refine wp_region_over (by kernel_rfl) (by kernel_rfl) (fun hov => ?_)
        repeat (go_big_quiet_step (((go_at_call 39; exact overCall (sSame_b _ mx _ dx _ my _ dy _ HMX.out (rd_over R1.out) HMY.out (rd_over R2.out) hnd hnd2 hN3.out)))))
        refine wpQuiet_nil ?_
        intro w5 hb5
        clear hov
        go_wp2
        go_ret
        exact ⟨ret_bool hR.out.symm, hB.trans (hb5.mono hB.size)⟩
      have hd := hid (hdf.out.trans (sameD_all c1 c2 c3 c4))
      have e4 := neI_false c4
      have hN3 := hid c3
      clear c3 c4
      go_wp2_with fail
      refine wp_region_over (by kernel_rfl) (by kernel_rfl) (fun hov => ?_)
      repeat (go_big_quiet_step (((go_at_call 39; exact overCall (sSame_b _ mx _ dx _ my _ dy _ HMX.out (rd_over R1.out) HMY.out (rd_over R2.out) hnd hnd2 hN3.out)))))
      refine wpQuiet_nil ?_
      intro w5 hb5
      clear hov
      go_wp2
      go_roundw
      case rel => exact ⟨k + 1, by omega, by go_num, hid (none_next hNo.out hd.out), hB.trans (hb5.mono hB.size)⟩
      case measure => simp [intOf]; omega
    · obtain rfl : k = n := by omega
      have hR := hid (sameL_all hLL.out (by rw [← HN.out]; exact hNo.out))
      go_wp2
      go_ret
      exact ⟨ret_bool hR.out.symm, hB⟩
set_option maxRecDepth 100000 in
set_option maxHeartbeats 4000000 in
theorem sameLs_any (ao : Option Addr) (n cap : Nat) (l : List Ls) (bo : Option Addr) (n2 cap2 : Nat) (M : List Ls) (w : World) (ha : LsArg w ao n cap l) (hs : LsSmall l) (hb : LsArg w bo n2 cap2 M) (hs2 : LsSmall M) :
    Calls Try.prog 16 #[.slice ao n cap, .slice bo n2 cap2] w fun e w' => e = .returned (.bool (sameL (l.map Ls.d) (M.map Ls.d))) ∧ Below w.heap.size w w' := by
  obtain ⟨hn, _, hr, hg⟩ := ha
  obtain ⟨hn2, _, hr2, hg2⟩ := hb
  have hm : n ≤ 1048576 := by rw [hn]; exact hs.1
  have hm2 : n2 ≤ 1048576 := by rw [hn2]; exact hs2.1
  have HN := hid hn
  have HN2 := hid hn2
  have HS := hid hs.2
  have HS2 := hid hs2.2
  have HG := hid hg
  have HG2 := hid hg2
  have hrd := rd_ls hr
  have hrd2 := rd_ls hr2
  clear hn hn2 hr hr2 hs hs2 hg hg2
  by_cases hnn : n = n2
  case neg =>
    have hR := hid (sameL_len (l := l) (M := M) (by rw [← HN.out, ← HN2.out]; exact hnn))
    have e1 : ((n : Int) != (n2 : Int)) = true := neI_true (by omega)
    clear hnn
    go_enter Try.func16, Try.ntmps16
    go_wp2
    go_ret
    exact ⟨ret_bool hR.out.symm, Below.refl _ _⟩
  subst hnn
  have hLL := hid (show l.length = M.length by rw [← HN.out, ← HN2.out])
  have e1 : ((n : Int) != (n : Int)) = false := neI_false rfl
  go_enter Try.func16, Try.ntmps16
  go_wp2
  go_loopw [5, 6, 7, 15] (fun _ _ _ i wr => ∃ k : Nat, k ≤ n ∧ i = .int .i64 k ∧ Hid (NoneUpTo (difL (l.map Ls.d) (M.map Ls.d)) k) ∧ Below w.heap.size w wr) (fun _ _ _ i _ => n - (intOf i).toNat)
  case atStart => exact ⟨0, Nat.zero_le _, rfl, hid (none_zero _), Below.refl _ _⟩
  case round =>
    obtain ⟨k, hk, rfl, hNo, hB⟩ := hrel
    by_cases hlt : k < n
    · rcases hrd with hnil | ⟨b, o, rfl, hl1, hcell⟩
      · exact absurd (by rw [HN.out, hnil]; rfl : n = 0) (by omega)
      rcases hrd2 with hnil | ⟨b2, o2, rfl, hl2, hcell2⟩
      · exact absurd (by rw [HN2.out, hnil]; rfl : n = 0) (by omega)
      have hka : k < l.length := by rw [← HN.out]; exact hlt
      have hkb : k < M.length := by rw [← HN2.out]; exact hlt
      obtain ⟨h1, h2, h3, h4⟩ := (hcell k hka).below hB hl1
      obtain ⟨i1, i2, i3, i4⟩ := (hcell2 k hkb).below hB hl2
      have R1 := hid (rd_below (HG.out _ (List.getElem_mem hka)).rd hB)
      have R2 := hid (rd_below (HG2.out _ (List.getElem_mem hkb)).rd hB)
      have hnd := (HS.out _ (List.getElem_mem hka)).2.2
      have hnd2 := (HS2.out _ (List.getElem_mem hkb)).2.2
      have hdf := hid (difL_get hka hkb)
      have hht := hid (fun hN hq => sameL_hit (M := M) hka hN hq)
      obtain ⟨x, hx⟩ : ∃ x, x = l[k] := ⟨_, rfl⟩
      obtain ⟨y, hy⟩ : ∃ y, y = M[k] := ⟨_, rfl⟩
      rw [← hx] at h1 h2 h3 h4 R1 hnd hdf
      rw [← hy] at i1 i2 i3 i4 R2 hnd2 hdf
      clear hx hy hcell hcell2 hka hkb
      obtain ⟨nx, lx, ax, cx, dx, qx⟩ := x
      obtain ⟨ny, ly, ay, cy, dy, qy⟩ := y
      dsimp only at h1 h2 h3 h4 R1 hnd i1 i2 i3 i4 R2 hnd2
      obtain ⟨mx, hmx⟩ : ∃ m, m = dx.length := ⟨_, rfl⟩
      obtain ⟨my, hmy⟩ : ∃ m, m = dy.length := ⟨_, rfl⟩
      rw [← hmx] at h3 hnd
      rw [← hmy] at i3 hnd2
      have HMX := hid hmx
      have HMY := hid hmy
      clear hmx hmy
      have hk0 : (0 : Int) ≤ (k : Int) := by omega
      have hkn : (k : Int) < (n : Int) := by omega
      have z1 := Nat.lt_of_lt_of_le hl1 hB.size
      have z2 := Nat.lt_of_lt_of_le hl2 hB.size
      cases c1 : (nx.toList == ny.toList)
      · have hR := hid (hht.out hNo.out (hdf.out.trans (sameD_1 c1)))
        go_wp2_with fail
        go_ret
        exact ⟨ret_bool hR.out.symm, hB.trans ((((Below.refl wr.heap.size wr).alloc (Nat.le_refl _) _).alloc (by simp) _).mono hB.size)⟩
      cases c2 : (lx.toList == ly.toList)
      · have hR := hid (hht.out hNo.out (hdf.out.trans (sameD_2 c2)))
        go_wp2_with fail
        go_ret
        exact ⟨ret_bool hR.out.symm, hB.trans ((((Below.refl wr.heap.size wr).alloc (Nat.le_refl _) _).alloc (by simp) _).mono hB.size)⟩
      by_cases c4 : qx = qy
      case neg =>
        have hR := hid (hht.out hNo.out (hdf.out.trans (sameD_4 c4)))
        have e4 := neI_true c4
        clear c4
        go_wp2_with fail
        go_ret
        exact ⟨ret_bool hR.out.symm, hB.trans ((((Below.refl wr.heap.size wr).alloc (Nat.le_refl _) _).alloc (by simp) _).mono hB.size)⟩
      cases c3 : sameN dx dy
      · have hR := hid (hht.out hNo.out (hdf.out.trans (sameD_3 c3)))
        have e4 := neI_false c4
        have hN3 := hid c3
        clear c3 c4
        go_wp2_with (go_at_call 41; refine (sameNum_b _ mx _ dx _ my _ dy _ HMX.out (rd_below R1.out (by (repeat (first | with_reducible exact Below.refl _ _ | with_reducible assumption | refine Below.drew ?_ | refine below_drewN ?_ _ | (refine Below.alloc ?_ (by first | omega | (simp; done) | (simp; omega)) _) | (refine Below.setCell ?_ (by first | omega | (simp; done) | (simp; omega)) _) | (refine Below.trans ?_ (Below.mono (by assumption) (by first | omega | (simp; done) | (simp; omega)))))))) HMY.out (rd_below R2.out (by (repeat (first | with_reducible exact Below.refl _ _ | with_reducible assumption | refine Below.drew ?_ | refine below_drewN ?_ _ | (refine Below.alloc ?_ (by first | omega | (simp; done) | (simp; omega)) _) | (refine Below.setCell ?_ (by first | omega | (simp; done) | (simp; omega)) _) | (refine Below.trans ?_ (Below.mono (by assumption) (by first | omega | (simp; done) | (simp; omega)))))))) hnd hnd2 hN3.out).mono ?_; rintro e w5 ⟨rfl, hb5⟩)
        go_ret
        exact ⟨ret_bool hR.out.symm, hB.trans (Below.trans (((Below.refl wr.heap.size wr).alloc (Nat.le_refl _) _).alloc (by simp) _) (hb5.mono (by simp <;> omega)) |>.mono hB.size)⟩
      have hd := hid (hdf.out.trans (sameD_all c1 c2 c3 c4))
      have e4 := neI_false c4
      have hN3 := hid c3
      clear c3 c4
      go_wp2_with (go_at_call 41; refine (sameNum_b _ mx _ dx _ my _ dy _ HMX.out (rd_below R1.out (by (repeat (first | with_reducible exact Below.refl _ _ | with_reducible assumption | refine Below.drew ?_ | refine below_drewN ?_ _ | (refine Below.alloc ?_ (by first | omega | (simp; done) | (simp; omega)) _) | (refine Below.setCell ?_ (by first | omega | (simp; done) | (simp; omega)) _) | (refine Below.trans ?_ (Below.mono (by assumption) (by first | omega | (simp; done) | (simp; omega)))))))) HMY.out (rd_below R2.out (by (repeat (first | with_reducible exact Below.refl _ _ | with_reducible assumption | refine Below.drew ?_ | refine below_drewN ?_ _ | (refine Below.alloc ?_ (by first | omega | (simp; done) | (simp; omega)) _) | (refine Below.setCell ?_ (by first | omega | (simp; done) | (simp; omega)) _) | (refine Below.trans ?_ (Below.mono (by assumption) (by first | omega | (simp; done) | (simp; omega)))))))) hnd hnd2 hN3.out).mono ?_; rintro e w5 ⟨rfl, hb5⟩)
      go_roundw
      case rel => exact ⟨k + 1, by omega, by go_num, hid (none_next hNo.out hd.out), hB.trans (Below.trans (((Below.refl wr.heap.size wr).alloc (Nat.le_refl _) _).alloc (by simp) _) (hb5.mono (by simp <;> omega)) |>.mono hB.size)⟩
      case measure => simp [intOf]; omega
    · obtain rfl : k = n := by omega
      have hR := hid (sameL_all hLL.out (by rw [← HN.out]; exact hNo.out))
      go_wp2
      go_ret
      exact ⟨ret_bool hR.out.symm, hB⟩
end Go.Proofs.Ytbfkiopikkolcaa
