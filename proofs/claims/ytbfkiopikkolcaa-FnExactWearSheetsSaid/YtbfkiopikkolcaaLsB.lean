/-
  Walks: lessons are the same: the laws' helper and both functions.
-/
import Derived.Test.YtbfkiopikkolcaaLsA
import Derived.Test.YtbfkiopikkolcaaNum
namespace Go.Proofs.Ytbfkiopikkolcaa
open Go.RowKit Go.ChangeShapes Go.WideShapes
set_option linter.unusedVariables false
attribute [local go_sem ↓] Go.wp_at_zero Go.wp_at_succ

theorem ls_at {l M : List Ls} (h : l.map Ls.d = M.map Ls.d) {k : Nat} (h1 : k < l.length) (h2 : k < M.length) : l[k].nm = M[k].nm ∧ l[k].lt = M[k].lt ∧ l[k].nd = M[k].nd ∧ l[k].hr = M[k].hr := by
  have := congrArg (fun L => L[k]?) h
  simp only [List.getElem?_map, List.getElem?_eq_getElem h1, List.getElem?_eq_getElem h2, Option.map_some, Option.some.injEq, Ls.d, Prod.mk.injEq] at this
  exact this
theorem ls_len {l M : List Ls} (h : l.map Ls.d = M.map Ls.d) : l.length = M.length := by
  have := congrArg List.length h
  simpa using this

set_option maxHeartbeats 2000000 in
theorem eqLessonS_any (ao bo : Option Addr) (n cap cap2 : Nat) (l M : List Ls) (w : World) (ha : LsArg w ao n cap l) (hb : LsArg w bo n cap2 M) (hd : l.map Ls.d = M.map Ls.d) (hs : LsSmall l) :
    Calls Try.prog 17 #[.slice ao n cap, .slice bo n cap2] w fun e w' => e = .returned (.bool true) ∧ Below w.heap.size w w' := by
  obtain ⟨hn, _, hr, hg⟩ := ha
  obtain ⟨hn2, _, hr2, hg2⟩ := hb
  have hm : n ≤ 1048576 := by rw [hn]; exact hs.1
  have HN := hid hn
  have HN2 := hid hn2
  have HD := hid hd
  have HS := hid hs.2
  have HG := hid hg
  have HG2 := hid hg2
  have hrd := rd_ls hr
  have hrd2 := rd_ls hr2
  clear hn hn2 hr hr2 hd hs hg hg2
  go_enter Try.func17, Try.ntmps17
  go_wp2
  go_loopw [5] (fun i wr => ∃ k : Nat, k ≤ n ∧ i = .int .i64 k ∧ Below w.heap.size w wr) (fun i _ => n - (intOf i).toNat)
  case atStart => exact ⟨0, Nat.zero_le _, rfl, Below.refl _ _⟩
  case round =>
    obtain ⟨k, hk, rfl, hB⟩ := hrel
    by_cases hlt : k < n
    · rcases hrd with hnil | ⟨b, o, rfl, hl1, hcell⟩
      · exact absurd (by rw [HN.out, hnil]; rfl : n = 0) (by omega)
      rcases hrd2 with hnil | ⟨b2, o2, rfl, hl2, hcell2⟩
      · exact absurd (by rw [HN2.out, hnil]; rfl : n = 0) (by omega)
      have hka : k < l.length := by rw [← HN.out]; exact hlt
      have hkb : k < M.length := by rw [← HN2.out]; exact hlt
      obtain ⟨h1, h2, h3, h4⟩ := (hcell k hka).below hB hl1
      obtain ⟨i1, i2, i3, i4⟩ := (hcell2 k hkb).below hB hl2
      have r1 := rd_below (HG.out _ (List.getElem_mem hka)).rd hB
      have r2 := rd_below (HG2.out _ (List.getElem_mem hkb)).rd hB
      have hnd := (HS.out _ (List.getElem_mem hka)).2.2
      obtain ⟨q1, q2, q3, q4⟩ := ls_at HD.out hka hkb
      rw [← q1] at i1
      rw [← q2] at i2
      rw [← q3] at i3 r2
      rw [← q4] at i4
      obtain ⟨x, hx⟩ : ∃ x, x = l[k] := ⟨_, rfl⟩
      obtain ⟨y, hy⟩ : ∃ y, y = M[k] := ⟨_, rfl⟩
      rw [← hx] at h1 h2 h3 h4 i1 i2 i3 i4 r1 r2 hnd
      rw [← hy] at i3 r2
      clear hx hy q1 q2 q3 q4 hcell hcell2 hka hkb
      have hk0 : (0 : Int) ≤ (k : Int) := by omega
      have hkn : (k : Int) < (n : Int) := by omega
      have hlb : Below w.heap.size w wr.drew := hB.drew
      have R1 := hid (rd_drewN r1 0)
      have z1 := Nat.lt_of_lt_of_le hl1 hB.size
      have z2 := Nat.lt_of_lt_of_le hl2 hB.size
      have hdr : Below wr.heap.size wr wr.drew := (Below.refl _ _).drew
      have r1' := hid (rd_below r1 hdr)
      have r2' := hid (rd_below r2 hdr)
      clear r1 r2 R1
      have sk : ∀ W, Below wr.heap.size wr W → ((W.cell? ⟨b, o + k * 4, none⟩ = some (.string x.nm) ∧ W.cell? ⟨b, o + k * 4 + 1, none⟩ = some (.string x.lt) ∧ W.cell? ⟨b, o + k * 4 + 2, none⟩ = some (.slice x.ao x.nd.length x.cap) ∧ W.cell? ⟨b, o + k * 4 + 3, none⟩ = some (.int .i64 x.hr)) ∧ (W.cell? ⟨b2, o2 + k * 4, none⟩ = some (.string x.nm) ∧ W.cell? ⟨b2, o2 + k * 4 + 1, none⟩ = some (.string x.lt) ∧ W.cell? ⟨b2, o2 + k * 4 + 2, none⟩ = some (.slice y.ao x.nd.length y.cap) ∧ W.cell? ⟨b2, o2 + k * 4 + 3, none⟩ = some (.int .i64 x.hr))) := fun W hb =>
        ⟨⟨(hb.cell (p := ⟨b, o + k * 4, none⟩) z1).trans h1, (hb.cell (p := ⟨b, o + k * 4 + 1, none⟩) z1).trans h2, (hb.cell (p := ⟨b, o + k * 4 + 2, none⟩) z1).trans h3, (hb.cell (p := ⟨b, o + k * 4 + 3, none⟩) z1).trans h4⟩,
        ⟨(hb.cell (p := ⟨b2, o2 + k * 4, none⟩) z2).trans i1, (hb.cell (p := ⟨b2, o2 + k * 4 + 1, none⟩) z2).trans i2, (hb.cell (p := ⟨b2, o2 + k * 4 + 2, none⟩) z2).trans i3, (hb.cell (p := ⟨b2, o2 + k * 4 + 3, none⟩) z2).trans i4⟩⟩
      go_wp2_with fail
      go_region_held3 (fun W => (W.cell? ⟨b, o + k * 4, none⟩ = some (.string x.nm) ∧ W.cell? ⟨b, o + k * 4 + 1, none⟩ = some (.string x.lt) ∧ W.cell? ⟨b, o + k * 4 + 2, none⟩ = some (.slice x.ao x.nd.length x.cap) ∧ W.cell? ⟨b, o + k * 4 + 3, none⟩ = some (.int .i64 x.hr)) ∧ (W.cell? ⟨b2, o2 + k * 4, none⟩ = some (.string x.nm) ∧ W.cell? ⟨b2, o2 + k * 4 + 1, none⟩ = some (.string x.lt) ∧ W.cell? ⟨b2, o2 + k * 4 + 2, none⟩ = some (.slice y.ao x.nd.length y.cap) ∧ W.cell? ⟨b2, o2 + k * 4 + 3, none⟩ = some (.int .i64 x.hr)))
        (first | exact sk _ hdr | exact sk _ hbb)
        (first | (go_at_call 42; refine (eqLesson_any _ _ _ _ _ _ _ _ _ hnd r1'.out r2'.out).mono ?_; rintro e w' ⟨rfl, hb⟩; have hbb : Below wr.heap.size wr w' := hdr.trans (hb.mono (Nat.le_refl _))))
      go_wp2
      go_roundw
      case rel => exact ⟨k + 1, by omega, by go_num, hB.trans (hbb.mono hB.size)⟩
      case measure => simp [intOf]; omega
    · obtain rfl : k = n := by omega
      go_wp2
      go_ret
      exact ⟨rfl, hB⟩
end Go.Proofs.Ytbfkiopikkolcaa
