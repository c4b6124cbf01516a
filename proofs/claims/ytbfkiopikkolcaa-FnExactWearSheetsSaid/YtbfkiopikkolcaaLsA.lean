/-
  Walks of the laws' helpers over lessons: sizes, copy, equal.
-/
import Derived.Test.YtbfkiopikkolcaaLs
import Derived.Test.YtbfkiopikkolcaaSl64
namespace Go.Proofs.Ytbfkiopikkolcaa
open Go.RowKit Go.ChangeShapes Go.WideShapes
set_option linter.unusedVariables false
attribute [local go_sem ↓] Go.wp_at_zero Go.wp_at_succ

/-- what is left of a size behind a lesson -/
def szL1 (a b k : Nat) (left : Int) : Int := if left - a < 0 then -1 else if left - a - b < 0 then -1 else if left - a - b - k < 0 then -1 else left - a - b - k
theorem szL1_bd {a b k : Nat} {left : Int} (h : 0 ≤ left) : szL1 a b k left ≤ left ∧ (0 ≤ szL1 a b k left → (a : Int) ≤ left ∧ (b : Int) ≤ left ∧ (k : Int) ≤ left) := by
  unfold szL1
  split
  · exact ⟨by omega, by omega⟩
  · split
    · exact ⟨by omega, by omega⟩
    · split
      · exact ⟨by omega, by omega⟩
      · exact ⟨by omega, by omega⟩
def szN (n : Nat) (left : Int) : Int := if left - n < 0 then -1 else left - n
set_option maxHeartbeats 2000000 in
theorem sz64_any (ao : Option Addr) (n cap : Nat) (left : Int) (w : World) (hm : n ≤ maxLen) (h1 : 0 ≤ left) (h2 : left ≤ 1048576) :
    Calls Try.prog 63 #[.slice ao n cap, .int .i64 left] w fun e w' => e = .returned (.int .i64 (szN n left)) ∧ Below w.heap.size w w' := by
  unfold maxLen at hm
  by_cases h : left - n < 0
  · have hR := hid (show szN n left = -1 from if_pos h)
    go_enter Try.func63, Try.ntmps63
    go_wp2
    go_ret
    exact ⟨ret_int hR.out.symm, Below.refl _ _⟩
  · have hR := hid (show szN n left = left - n from if_neg h)
    go_enter Try.func63, Try.ntmps63
    go_wp2
    go_ret
    exact ⟨ret_int hR.out.symm, Below.refl _ _⟩
set_option maxHeartbeats 4000000 in
theorem szLesson_any (x y : ByteArray) (ao : Option Addr) (n cap : Nat) (q : Int) (left : Int) (w : World) (hx : x.size ≤ maxLen) (hy : y.size ≤ maxLen) (hm : n ≤ maxLen) (h1 : 0 ≤ left) (h2 : left ≤ 1048576) :
    Calls Try.prog 38 #[.agg #[.string x, .string y, .slice ao n cap, .int .i64 q], .int .i64 left] w fun e w' => e = .returned (.int .i64 (szL1 x.size y.size n left)) ∧ Below w.heap.size w w' := by
  have hx' := hx
  have hy' := hy
  have hm' := hm
  unfold maxLen at hx' hy' hm'
  have hB0 : Below w.heap.size w (w.alloc (.cells #[.string x, .string y, .slice ao n cap, .int .i64 q] 57)) := (Below.refl _ _).alloc (Nat.le_refl _) _
  by_cases h3 : left - x.size < 0
  · have hR := hid (show szL1 x.size y.size n left = -1 by unfold szL1; rw [if_pos h3])
    go_enter Try.func38, Try.ntmps38
    go_wp2_with fail
    go_ret
    exact ⟨ret_int hR.out.symm, hB0⟩
  by_cases h4 : left - x.size - y.size < 0
  · have hR := hid (show szL1 x.size y.size n left = -1 by unfold szL1; rw [if_neg h3, if_pos h4])
    go_enter Try.func38, Try.ntmps38
    go_wp2_with fail
    go_ret
    exact ⟨ret_int hR.out.symm, hB0⟩
  by_cases h5 : left - x.size - y.size - n < 0
  · have hR := hid (show szL1 x.size y.size n left = -1 by unfold szL1; rw [if_neg h3, if_neg h4, if_pos h5])
    go_enter Try.func38, Try.ntmps38
    go_wp2_with (go_at_call 63; refine (sz64_any ao n cap _ _ hm (by omega) (by omega)).mono ?_; rw [show szN n (left - x.size - y.size) = -1 from if_pos h5]; rintro e w1 ⟨rfl, hb1⟩)
    go_ret
    exact ⟨ret_int hR.out.symm, hB0.trans (hb1.mono (by simp))⟩
  · have hR := hid (show szL1 x.size y.size n left = left - x.size - y.size - n by unfold szL1; rw [if_neg h3, if_neg h4, if_neg h5])
    go_enter Try.func38, Try.ntmps38
    go_wp2_with (go_at_call 63; refine (sz64_any ao n cap _ _ hm (by omega) (by omega)).mono ?_; rw [show szN n (left - x.size - y.size) = left - x.size - y.size - n from if_neg h5]; rintro e w1 ⟨rfl, hb1⟩)
    go_ret
    exact ⟨ret_int hR.out.symm, hB0.trans (hb1.mono (by simp))⟩
/-- behind several lessons -/
def szLs (left : Int) : List Ls → Int
  | [] => left
  | x :: r => if szL1 x.nm.size x.lt.size x.nd.length left < 0 then -1 else szLs (szL1 x.nm.size x.lt.size x.nd.length left) r
def szAllLs (left : Int) (n : Nat) (l : List Ls) : Int := if left - (n : Int) < 0 then -1 else szLs (left - n) l
theorem szAllLs_big {lf : Int} {n : Nat} {l : List Ls} (h : lf - (n : Int) < 0) : szAllLs lf n l = -1 := by rw [szAllLs, if_pos h]
theorem szAllLs_small {lf : Int} {n : Nat} {l : List Ls} (h : ¬ lf - (n : Int) < 0) : szAllLs lf n l = szLs (lf - n) l := by rw [szAllLs, if_neg h]
theorem szAllLs_len {lf : Int} {n : Nat} {l : List Ls} (h1 : lf ≤ 1048576) (h : ¬ szAllLs lf n l < 0) : n ≤ 1048576 := by
  by_cases hb : lf - (n : Int) < 0
  · rw [szAllLs_big hb] at h; omega
  · omega
theorem szLs_le (l : List Ls) : ∀ lf : Int, 0 ≤ lf → szLs lf l ≤ lf ∧ (0 ≤ szLs lf l → ∀ x ∈ l, (x.nm.size : Int) ≤ lf ∧ (x.lt.size : Int) ≤ lf ∧ (x.nd.length : Int) ≤ lf) := by
  induction l with
  | nil => intro lf _; exact ⟨by simp [szLs], fun _ x hx => by simp at hx⟩
  | cons x r ih =>
    intro lf h
    rw [szLs]
    have hb := szL1_bd (a := x.nm.size) (b := x.lt.size) (k := x.nd.length) h
    split
    · exact ⟨by omega, fun h => by omega⟩
    · have h0 : 0 ≤ szL1 x.nm.size x.lt.size x.nd.length lf := by omega
      have hi := ih _ h0
      refine ⟨by omega, fun hz y hy => ?_⟩
      rcases List.mem_cons.1 hy with rfl | hy
      · exact hb.2 h0
      · have := hi.2 hz y hy
        omega
theorem szAllLs_le (lf : Int) (n : Nat) (l : List Ls) (h : 0 ≤ lf) (h1 : lf ≤ 1048576) : szAllLs lf n l ≤ 1048576 := by
  unfold szAllLs
  split
  · omega
  · have := (szLs_le l (lf - n) (by omega)).1
    omega
/-- lessons that are no great burden -/
def LsSmall (l : List Ls) : Prop := l.length ≤ 1048576 ∧ ∀ x ∈ l, x.nm.size ≤ 1048576 ∧ x.lt.size ≤ 1048576 ∧ x.nd.length ≤ 1048576
theorem szAllLs_small2 {lf : Int} {n : Nat} {l : List Ls} (hn : n = l.length) (h : 0 ≤ lf) (h1 : lf ≤ 1048576) (hz : ¬ szAllLs lf n l < 0) : LsSmall l := by
  have hl := szAllLs_len h1 hz
  refine ⟨by omega, fun x hx => ?_⟩
  by_cases hb : lf - (n : Int) < 0
  · rw [szAllLs_big hb] at hz; omega
  · rw [szAllLs_small hb] at hz
    have := (szLs_le l (lf - n) (by omega)).2 (by omega) x hx
    omega
set_option maxHeartbeats 4000000 in
theorem szLessonS_any (ao : Option Addr) (n cap : Nat) (l : List Ls) (lf : Int) (w : World) (hf0 : 0 ≤ lf) (hf1 : lf ≤ 1048576) (ha : LsArg w ao n cap l) :
    Calls Try.prog 13 #[.slice ao n cap, .int .i64 lf] w fun e w' => e = .returned (.int .i64 (szAllLs lf n l)) ∧ Below w.heap.size w w' := by
  obtain ⟨hn, hm, hr, hg⟩ := ha
  unfold maxLen at hm
  by_cases hbig : lf - (n : Int) < 0
  · go_enter Try.func13, Try.ntmps13
    go_wp2
    go_ret
    exact ⟨ret_int (szAllLs_big (by omega)).symm, Below.refl _ _⟩
  · have HN := hid hn
    have hrd := rd_ls hr
    clear hn hr
    have hR := hid (szAllLs_small (l := l) hbig)
    go_enter Try.func13, Try.ntmps13
    go_wp2
    go_loopw [1, 5] (fun lv i wr => ∃ (k : Nat) (left : Int), k ≤ n ∧ i = .int .i64 k ∧ lv = .int .i64 left ∧ 0 ≤ left ∧ left ≤ 1048576 ∧ Hid (szLs (lf - n) l = szLs left (l.drop k)) ∧ Below w.heap.size w wr) (fun _ i _ => n - (intOf i).toNat)
    case atStart => exact ⟨0, _, Nat.zero_le _, rfl, rfl, by omega, by omega, rfl, Below.refl _ _⟩
    case round =>
      obtain ⟨k, left, hk, rfl, rfl, hl0, hl1, hS, hB⟩ := hrel
      by_cases hlt : k < n
      · rcases hrd with hnil | ⟨b, o, rfl, hbl, hcell⟩
        · exact absurd (by rw [HN.out, hnil]; rfl : n = 0) (by omega)
        · have hkl : k < l.length := by rw [← HN.out]; exact hlt
          obtain ⟨g1, g2, g3, g4⟩ := (hcell k hkl).below hB hbl
          obtain ⟨hs1, hs2, hs3, _⟩ := hg _ (List.getElem_mem hkl)
          clear hcell
          have hk0 : (0 : Int) ≤ (k : Int) := by omega
          have hkn : (k : Int) < (n : Int) := by omega
          obtain ⟨x, hx⟩ : ∃ x, x = l[k] := ⟨_, rfl⟩
          have hst := hid (show szLs left (l.drop k) = if szL1 x.nm.size x.lt.size x.nd.length left < 0 then -1 else szLs (szL1 x.nm.size x.lt.size x.nd.length left) (l.drop (k + 1)) by rw [List.drop_eq_getElem_cons hkl, hx]; rfl)
          rw [← hx] at g1 g2 g3 g4 hs1 hs2 hs3
          have Hx := hid hx
          clear hx
          obtain ⟨v, hv⟩ : ∃ v, v = szL1 x.nm.size x.lt.size x.nd.length left := ⟨_, rfl⟩
          have hzl := (szL1_bd (a := x.nm.size) (b := x.lt.size) (k := x.nd.length) hl0).1
          rw [← hv] at hzl hst
          have HV := hid hv
          clear hv
          by_cases hz : v < 0
          · go_wp2_with (go_at_call 38; refine (szLesson_any _ _ _ _ _ _ _ _ hs1 hs2 hs3 hl0 hl1).mono ?_; rw [← HV.out]; rintro e w' ⟨rfl, hb⟩)
            go_ret
            exact ⟨ret_int (by rw [hR.out, hS.out, hst.out, if_pos (by omega)]), hB.trans (hb.mono hB.size)⟩
          · go_wp2_with (go_at_call 38; refine (szLesson_any _ _ _ _ _ _ _ _ hs1 hs2 hs3 hl0 hl1).mono ?_; rw [← HV.out]; rintro e w' ⟨rfl, hb⟩)
            go_roundw
            case rel => exact ⟨k + 1, _, by omega, by go_num, rfl, by omega, by omega, hid (by rw [hS.out, hst.out, if_neg (by omega)]), hB.trans (hb.mono hB.size)⟩
            case measure => simp [intOf]; omega
      · obtain rfl : k = n := by omega
        have hd := hid (show l.drop k = [] from List.drop_eq_nil_of_le (by rw [HN.out]; exact Nat.le_refl _))
        go_wp2
        go_ret
        exact ⟨ret_int (by rw [hR.out, hS.out, hd.out]; rfl), hB⟩

/-- a copy of a lesson -/
def LsRet (B : Nat) (w : World) (x y : ByteArray) (nd : List Int) (q : Int) (e : Ending) (w' : World) : Prop :=
  ∃ bo cap, e = .returned (.agg #[.string x, .string y, .slice bo nd.length cap, .int .i64 q]) ∧ w'.ownsRow B 2 1 (.slice bo nd.length cap) nd.length (i64s nd) ∧ Below B w w'
set_option maxHeartbeats 1000000 in
theorem toLesson_any (x y : ByteArray) (ao : Option Addr) (nd : List Int) (cap : Nat) (q : Int) (w : World) (hr : Rd w ao (i64s nd)) (hm : nd.length ≤ 1048576) :
    Calls Try.prog 40 #[.agg #[.string x, .string y, .slice ao nd.length cap, .int .i64 q]] w (LsRet w.heap.size w x y nd q) := by
  obtain ⟨n, hn⟩ : ∃ n, n = nd.length := ⟨_, rfl⟩
  have HN := hid hn
  unfold LsRet
  rw [← hn]
  rw [← hn] at hm
  clear hn
  go_enter Try.func40, Try.ntmps40
  go_wp2_with fail
  refine (toI64S_any ao n cap nd _ HN.out (rd_below hr (by (repeat (first | with_reducible exact Below.refl _ _ | with_reducible assumption | refine Below.drew ?_ | refine below_drewN ?_ _ | (refine Below.alloc ?_ (by first | omega | (simp; done) | (simp; omega)) _) | (refine Below.setCell ?_ (by first | omega | (simp; done) | (simp; omega)) _) | (refine Below.trans ?_ (Below.mono (by assumption) (by first | omega | (simp; done) | (simp; omega)))))))) hm).mono ?_
  rintro e w1 ⟨bo, cap2, rfl, ho, hb⟩
  obtain ⟨hc, hf, hz⟩ := bcell hb
  have hl1 : w.heap.size + 2 < w1.heap.size := Nat.lt_of_lt_of_le (by simp) hz
  go_wp2_with fail
  refine bodyPost_ret (v := .agg #[.string x, .string y, .slice bo n cap2, .int .i64 q]) (by simp [results, Try.results40, go_sem, hc]) rfl ⟨bo, cap2, rfl, ?_, ?_⟩
  · refine owns_mono (B := w.heap.size + 3) ?_ (by omega)
    repeat (refine ownsRow_setCell_below ?_ (by simp) _)
    exact owns_mono ho (by simp)
  · repeat (refine Below.setCell ?_ (by first | (simp; done) | (simp; omega)) _)
    refine Below.trans ?_ (hb.mono (by first | (simp; done) | (simp; omega)))
    repeat (refine Below.setCell ?_ (by first | (simp; done) | (simp; omega)) _)
    (repeat (first | with_reducible exact Below.refl _ _ | with_reducible assumption | refine Below.drew ?_ | refine below_drewN ?_ _ | (refine Below.alloc ?_ (by first | omega | (simp; done) | (simp; omega)) _) | (refine Below.setCell ?_ (by first | omega | (simp; done) | (simp; omega)) _) | (refine Below.trans ?_ (Below.mono (by assumption) (by first | omega | (simp; done) | (simp; omega))))))
set_option maxHeartbeats 1000000 in
theorem eqLesson_any (x y : ByteArray) (ao bo : Option Addr) (nd : List Int) (cap cap2 : Nat) (q : Int) (w : World) (hm : nd.length ≤ 1048576) (ha : Rd w ao (i64s nd)) (hb : Rd w bo (i64s nd)) :
    Calls Try.prog 42 #[.agg #[.string x, .string y, .slice ao nd.length cap, .int .i64 q], .agg #[.string x, .string y, .slice bo nd.length cap2, .int .i64 q]] w fun e w' => e = .returned (.bool true) ∧ Below w.heap.size w w' := by
  obtain ⟨n, hn⟩ : ∃ n, n = nd.length := ⟨_, rfl⟩
  have HN := hid hn
  rw [← hn]
  rw [← hn] at hm
  clear hn
  have e1 : (q != q) = false := by simp
  go_enter Try.func42, Try.ntmps42
  go_wp2_with (go_at_call 23; refine (eqI64_any ao bo nd n cap cap2 _ HN.out (by omega) (rd_below ha (by (repeat (first | with_reducible exact Below.refl _ _ | with_reducible assumption | refine Below.drew ?_ | refine below_drewN ?_ _ | (refine Below.alloc ?_ (by first | omega | (simp; done) | (simp; omega)) _) | (refine Below.setCell ?_ (by first | omega | (simp; done) | (simp; omega)) _) | (refine Below.trans ?_ (Below.mono (by assumption) (by first | omega | (simp; done) | (simp; omega)))))))) (rd_below hb (by (repeat (first | with_reducible exact Below.refl _ _ | with_reducible assumption | refine Below.drew ?_ | refine below_drewN ?_ _ | (refine Below.alloc ?_ (by first | omega | (simp; done) | (simp; omega)) _) | (refine Below.setCell ?_ (by first | omega | (simp; done) | (simp; omega)) _) | (refine Below.trans ?_ (Below.mono (by assumption) (by first | omega | (simp; done) | (simp; omega))))))))).mono ?_; rintro e w1 ⟨rfl, hb1⟩; have q3 : w1.cell? ⟨w.heap.size, 3, none⟩ = some (.int .i64 q) := (hb1.cell (p := ⟨w.heap.size, 3, none⟩) (by simp <;> omega)).trans (by simp); have q4 : w1.cell? ⟨w.heap.size + 1, 3, none⟩ = some (.int .i64 q) := (hb1.cell (p := ⟨w.heap.size + 1, 3, none⟩) (by simp)).trans (by simp))
  go_ret
  refine ⟨rfl, ?_⟩
  (repeat (first | with_reducible exact Below.refl _ _ | with_reducible assumption | refine Below.drew ?_ | refine below_drewN ?_ _ | (refine Below.alloc ?_ (by first | omega | (simp; done) | (simp; omega)) _) | (refine Below.setCell ?_ (by first | omega | (simp; done) | (simp; omega)) _) | (refine Below.trans ?_ (Below.mono (by assumption) (by first | omega | (simp; done) | (simp; omega))))))
/-- what is read in another block than that which is written -/
theorem rd_setCell {w : World} {ao : Option Addr} {xs : List Value} (h : Rd w ao xs) (a : Addr) (v : Value) (hne : ∀ q, ao = some q → q.block ≠ a.block) : Rd (w.setCell a v) ao xs := by
  rcases h with h | ⟨b, o, rfl, h2, h3⟩
  · exact .inl h
  · refine .inr ⟨b, o, rfl, by simpa using h2, fun j hj => ?_⟩
    rw [World.cell?_setCell_other _ _ _ _ (by have := hne _ rfl; intro e; apply this; rw [e])]
    exact h3 j hj
/-- the copies so far: each with its needs in memory of the call's own, above the row -/
def LsDone (w : World) (B : Nat) (M l : List Ls) (k : Nat) : Prop := M.length = k ∧ M.map Ls.d = (l.take k).map Ls.d ∧ ∀ x ∈ M, Rd w x.ao (i64s x.nd) ∧ ∀ q, x.ao = some q → B < q.block
theorem LsDone.below {w w' : World} {B : Nat} {M l : List Ls} {k : Nat} (h : LsDone w B M l k) (hb : Below w.heap.size w w') : LsDone w' B M l k :=
  ⟨h.1, h.2.1, fun x hx => ⟨rd_below (h.2.2 x hx).1 hb, (h.2.2 x hx).2⟩⟩
theorem LsDone.set {w : World} {B : Nat} {M l : List Ls} {k : Nat} (h : LsDone w B M l k) (j : Nat) (v : Value) : LsDone (w.setCell ⟨B, j, none⟩ v) B M l k :=
  ⟨h.1, h.2.1, fun x hx => ⟨rd_setCell (h.2.2 x hx).1 _ _ (fun q hq => by have := (h.2.2 x hx).2 q hq; show q.block ≠ B; omega), (h.2.2 x hx).2⟩⟩
def ls0 : Ls := ⟨ByteArray.empty, ByteArray.empty, none, 0, [], 0⟩
/-- the new row, so many elements done -/
def lsRow (M : List Ls) (n : Nat) : List Ls := M ++ List.replicate (n - M.length) ls0
theorem lsRow_len {M : List Ls} {n : Nat} (h : M.length ≤ n) : (lsRow M n).length = n := by simp [lsRow]; omega
theorem lsRow_set {M : List Ls} {n : Nat} (x : Ls) (h : M.length < n) : (lsRow M n).set M.length x = lsRow (M ++ [x]) n := by
  unfold lsRow
  have e : n - M.length = (n - (M ++ [x]).length) + 1 := by simp; omega
  rw [e, List.replicate_succ, List.set_append_right _ _ (Nat.le_refl _), Nat.sub_self, List.set_cons_zero, List.append_assoc]
  rfl
theorem lsRow_all (M : List Ls) : lsRow M M.length = M := by simp [lsRow]
theorem Try.infoLs : (Try.prog.info? 58).map (fun i => (i.zero, i.size, i.bytes)) = some (some (.agg #[.string ByteArray.empty, .string ByteArray.empty, .slice none 0 0, .int .i64 0]), 4, 64) := by kernel_rfl
/-- one result, a copy of lessons in new memory -/
def LssRet (w : World) (l : List Ls) (e : Ending) (w' : World) : Prop :=
  ∃ bo cap M, e = .returned (.slice bo l.length cap) ∧ LsArg w' bo l.length cap M ∧ M.map Ls.d = l.map Ls.d ∧ Below w.heap.size w w'
theorem ls_good {l M : List Ls} (h : M.map Ls.d = l.map Ls.d) (hs : LsSmall l) : LsSmall M := by
  have hl : M.length = l.length := by have := congrArg List.length h; simpa using this
  refine ⟨by rw [hl]; exact hs.1, fun x hx => ?_⟩
  obtain ⟨j, hj, rfl⟩ := List.getElem_of_mem hx
  have hj2 : j < l.length := by omega
  have e : M[j].d = l[j].d := by
    have := congrArg (fun L => L[j]?) h
    simp only [List.getElem?_map, List.getElem?_eq_getElem hj, List.getElem?_eq_getElem hj2, Option.map_some, Option.some.injEq] at this
    exact this
  have := hs.2 _ (List.getElem_mem hj2)
  simp only [Ls.d, Prod.mk.injEq] at e
  rw [e.1, e.2.1, e.2.2.1]
  exact this

set_option maxHeartbeats 4000000 in
theorem toLessonS_any (ao : Option Addr) (n cap : Nat) (l : List Ls) (w : World) (ha : LsArg w ao n cap l) (hs : LsSmall l) :
    Calls Try.prog 15 #[.slice ao n cap] w (LssRet w l) := by
  obtain ⟨i0, hi, hz0, hz1, hz2⟩ := info_parts Try.infoLs
  obtain ⟨hn, _, hr, hg⟩ := ha
  have hm : n ≤ 1048576 := by rw [hn]; exact hs.1
  have HN := hid hn
  have HG := hid hg
  have HS := hid hs
  have hrd := rd_ls hr
  clear hn hr hg hs
  go_enter Try.func15, Try.ntmps15
  go_wp2_with (at_make; refine wpList_make_full _ rfl _ _ 32 rfl w.heap.size 58 i0 (.agg #[.string ByteArray.empty, .string ByteArray.empty, .slice none 0 0, .int .i64 0]) 4 Try.underlying32 hi hz0 hz1 .i64 .i64 _ _ n rfl rfl rfl rfl (by rw [hz2]; omega) (by unfold maxLen; omega) (Nat.le_refl _) ?_; intro w1 hown hgrow)
  have hB0 : Below w.heap.size w w1 := (Below.refl _ _).grown hgrow (Nat.le_refl _) (by simp)
  have hown0 : w1.ownsRow w.heap.size 58 4 (.slice (some ⟨w.heap.size, 0, none⟩) n n) n (lss (lsRow [] n)) := by
    have e : lsRow [] n = List.replicate n ls0 := by simp [lsRow]
    rw [e, lss, ← made_flat lsF_len (.agg #[.string ByteArray.empty, .string ByteArray.empty, .slice none 0 0, .int .i64 0]) ls0 n rfl (by omega)]
    exact hown
  clear hown hgrow hi hz0 hz1 hz2
  go_loopw [4] (fun i wr => ∃ (k : Nat) (M : List Ls), k ≤ n ∧ i = .int .i64 k ∧ wr.ownsRow w.heap.size 58 4 (.slice (some ⟨w.heap.size, 0, none⟩) n n) n (lss (lsRow M n)) ∧ LsDone wr w.heap.size M l k ∧ Below w.heap.size w wr) (fun i _ => n - (intOf i).toNat)
  case atStart => exact ⟨0, [], Nat.zero_le _, rfl, hown0, ⟨rfl, rfl, fun x hx => by simp at hx⟩, hB0⟩
  case round =>
    clear hown0 hB0
    obtain ⟨k, M, hk, rfl, hown, hD, hB⟩ := hrel
    by_cases hlt : k < n
    · rcases hrd with hnil | ⟨b, o, rfl, hbl, hcell⟩
      · exact absurd (by rw [HN.out, hnil]; rfl : n = 0) (by omega)
      · have hkl : k < l.length := by rw [← HN.out]; exact hlt
        obtain ⟨g1, g2, g3, g4⟩ := (hcell k hkl).below hB hbl
        have hq := (HG.out _ (List.getElem_mem hkl)).rd
        have hq2 := (HS.out.2 _ (List.getElem_mem hkl)).2.2
        clear hcell
        have hk0 : (0 : Int) ≤ (k : Int) := by omega
        have hkn : (k : Int) < (n : Int) := by omega
        obtain ⟨x, hx⟩ : ∃ x, x = l[k] := ⟨_, rfl⟩
        rw [← hx] at g1 g2 g3 g4 hq hq2
        have Hx := hid hx
        clear hx
        have hq1 := rd_below hq hB
        have HD := hid hD
        clear hD hq
        go_wp2_with fail
        refine (toLesson_any _ _ _ _ _ _ _ hq1 hq2).mono ?_
        rintro e w' ⟨qo, qc, rfl, hoq, hb⟩
        have ho2 := owns_below hown hb
        have hfl : (lsRow M n).length = n := lsRow_len (by rw [HD.out.1]; omega)
        have hal : (lss (lsRow M n)).length = n * 4 := by rw [lss_len, hfl]
        obtain ⟨v0, hv0⟩ : ∃ v, w'.cell? ⟨w.heap.size, k * 4, none⟩ = some v := ⟨_, by rw [ho2.cellAt (k * 4) (by omega), List.getElem?_eq_getElem (by rw [hal]; omega)]⟩
        obtain ⟨v1, hv1⟩ : ∃ v, w'.cell? ⟨w.heap.size, k * 4 + 1, none⟩ = some v := ⟨_, by rw [ho2.cellAt (k * 4 + 1) (by omega), List.getElem?_eq_getElem (by rw [hal]; omega)]⟩
        obtain ⟨v2, hv2⟩ : ∃ v, w'.cell? ⟨w.heap.size, k * 4 + 2, none⟩ = some v := ⟨_, by rw [ho2.cellAt (k * 4 + 2) (by omega), List.getElem?_eq_getElem (by rw [hal]; omega)]⟩
        obtain ⟨v3, hv3⟩ : ∃ v, w'.cell? ⟨w.heap.size, k * 4 + 3, none⟩ = some v := ⟨_, by rw [ho2.cellAt (k * 4 + 3) (by omega), List.getElem?_eq_getElem (by rw [hal]; omega)]⟩
        have hf0 := ho2.frozenAt (k * 4)
        have hf1 := ho2.frozenAt (k * 4 + 1)
        have hf2 := ho2.frozenAt (k * 4 + 2)
        have hf3 := ho2.frozenAt (k * 4 + 3)
        have hzr := hB.size
        have hrow := (owns_form hown)
        have HR := hid hrow
        clear hfl hal hrow
        go_wp2_with fail
        go_roundw
        case rel =>
          have hlt2 : w.heap.size < wr.heap.size := by
            rcases HR.out with ⟨h, _⟩ | ⟨g, c, h, _, hg, _⟩
            · simp at h
            · simp at h; rw [h.1]; exact hg
          refine ⟨k + 1, M ++ [⟨x.nm, x.lt, qo, qc, x.nd, x.hr⟩], by omega, by go_num, ?_, ?_, ((((hB.trans (hb.mono hB.size)).setCell (by simp) _).setCell (by simp) _).setCell (by simp) _).setCell (by simp) _⟩
          · have hs := lsRow_set (M := M) (n := n) ⟨x.nm, x.lt, qo, qc, x.nd, x.hr⟩ (by rw [HD.out.1]; exact hlt)
            rw [HD.out.1] at hs
            rw [← hs, ← lss_set _ k _ (by rw [lsRow_len (by rw [HD.out.1]; omega)]; exact hlt)]
            exact ((((ho2.stored (k * 4) _).1.stored (k * 4 + 1) _).1).stored (k * 4 + 2) _).1.stored (k * 4 + 3) _ |>.1
          · have hD2 := ((((HD.out.below hb).set (k * 4) (.string x.nm)).set (k * 4 + 1) (.string x.lt)).set (k * 4 + 2) (.slice qo x.nd.length qc)).set (k * 4 + 3) (.int .i64 x.hr)
            have hoq2 := ownsRow_setCell_below (ownsRow_setCell_below (ownsRow_setCell_below (ownsRow_setCell_below hoq (a := ⟨w.heap.size, k * 4, none⟩) hlt2 (.string x.nm)) (a := ⟨w.heap.size, k * 4 + 1, none⟩) hlt2 (.string x.lt)) (a := ⟨w.heap.size, k * 4 + 2, none⟩) hlt2 (.slice qo x.nd.length qc)) (a := ⟨w.heap.size, k * 4 + 3, none⟩) hlt2 (.int .i64 x.hr)
            refine ⟨by simp [HD.out.1], ?_, fun y hy => ?_⟩
            · rw [List.map_append, HD.out.2.1, List.take_succ_eq_append_getElem hkl, List.map_append, ← Hx.out]
              rfl
            · rcases List.mem_append.1 hy with hy | hy
              · exact hD2.2.2 y hy
              · simp at hy
                subst hy
                refine ⟨owns_rd hoq2, fun q hq => ?_⟩
                rcases owns_form hoq with ⟨h1, _⟩ | ⟨g6, _, h1, hg6, _⟩
                · simp at h1; rw [h1.1] at hq; cases hq
                · simp at h1; rw [h1.1] at hq; cases hq; show w.heap.size < g6; omega
        case measure => simp [intOf]; omega
    · obtain rfl : k = n := by omega
      have hM : lsRow M k = M := by rw [← hD.1]; exact lsRow_all M
      have HM := hid hM
      have hte : l.take k = l := by rw [HN.out]; exact List.take_length
      have HT := hid hte
      have HD := hid hD
      clear hM hte hD
      go_wp2
      go_ret
      rw [HM.out] at hown
      have hmap : M.map Ls.d = l.map Ls.d := by rw [HD.out.2.1, HT.out]
      have hgood := (ls_good hmap HS.out).2
      refine ⟨some ⟨w.heap.size, 0, none⟩, k, M, by rw [← HN.out]; rfl, ⟨by rw [← HN.out]; exact HD.out.1.symm, by rw [← HN.out]; unfold maxLen; omega, owns_rdN hown, fun y hy => ⟨by have := hgood y hy; unfold maxLen; omega, by have := hgood y hy; unfold maxLen; omega, by have := hgood y hy; unfold maxLen; omega, (HD.out.2.2 y hy).1⟩⟩, hmap, hB⟩
end Go.Proofs.Ytbfkiopikkolcaa
