/-
  One abbreviation more: both walks.
-/
import Derived.Test.YtkkfnmlomjlckaaAddMath
import Derived.Test.YtkkfnmlomjlckaaAbD
import Derived.Test.YtkkfnmlomjlckaaSlAbS
import Derived.Test.YtkkfnmlomjlckaaSlS
namespace Go.Proofs.Ytkkfnmlomjlckaa
open Go.RowKit Go.ChangeShapes Go.WideShapes Go.Maps
set_option linter.unusedVariables false
attribute [local go_sem ↓] Go.wp_at_zero Go.wp_at_succ

theorem flatRet_mk {B : Nat} {E : TypeId} {sz : Nat} {w w' : World} {xs : List Value} {c : Int} {v : Value} {n : Nat} (ho : w'.ownsRow B E sz v n xs) (hb : Below B w w') : FlatRet B E sz n w xs c (.returned (.tuple #[v, .int .i64 c])) w' := by
  rcases owns_form ho with ⟨rfl, rfl, rfl⟩ | ⟨g, cap, rfl, _⟩
  · exact ⟨none, 0, rfl, ho, hb⟩
  · exact ⟨_, cap, rfl, ho, hb⟩
theorem add_cells (l : List Ab) (x y : ByteArray) (k : Nat) : abs (l.take k) ++ [.string x, .string y] ++ abs (l.drop k) = abs (l.take k ++ [(x, y)] ++ l.drop k) := by
  rw [abs_app, abs_app]; rfl
theorem src_tail {W : World} {b o k n cap : Nat} {l : List Ab} (h : ∀ t (ht : t < (abs l).length), W.cell? ⟨b, o + t, none⟩ = some (abs l)[t]) (hn : n = l.length) (hk : k ≤ n) (hc : n ≤ cap) : SrcOk W 2 (.slice (if cap = k then some ⟨b, o, none⟩ else some ⟨b, o + k * 2, none⟩) (n - k) (cap - k)) (n - k) (abs (l.drop k)) := by
  split
  · obtain rfl : k = n := by omega
    exact src_none hn
  · exact src_drop h hn hk
theorem src_end {W : World} {b o k cap c : Nat} {l : List Ab} (hn : k = l.length) : SrcOk W 2 (.slice (if cap = k then some ⟨b, o, none⟩ else some ⟨b, o + k * 2, none⟩) 0 c) 0 (abs (l.drop k)) := by
  have e : l.drop k = [] := List.drop_eq_nil_of_le (by omega)
  rw [e]
  split
  · exact .inr ⟨_, _, rfl, rfl, fun j u hu => by simp [abs, flat] at hu, abs_one _⟩
  · exact .inr ⟨_, _, rfl, rfl, fun j u hu => by simp [abs, flat] at hu, abs_one _⟩
theorem src_nil {W : World} {a : Addr} {c k : Nat} {l : List Ab} (hn : k = l.length) : SrcOk W 2 (.slice (some a) 0 c) 0 (abs (l.drop k)) := by
  have e : l.drop k = [] := List.drop_eq_nil_of_le (by omega)
  rw [e]
  exact .inr ⟨_, _, rfl, rfl, fun j u hu => by simp [abs, flat] at hu, abs_one _⟩
theorem src_full {W : World} {b o n c : Nat} {l : List Ab} (h : ∀ t (ht : t < (abs l).length), W.cell? ⟨b, o + t, none⟩ = some (abs l)[t]) (hn : n = l.length) : SrcOk W 2 (.slice (some ⟨b, o, none⟩) n c) n (abs (l.drop 0)) := by
  have := src_take (k := n) (c := c) h (by omega)
  rw [List.take_of_length_le (by omega)] at this
  exact this
theorem cells_over {w2 W : World} {b o : Nat} {L : List Value} (h : ∀ t (ht : t < L.length), w2.cell? ⟨b, o + t, none⟩ = some L[t]) (hb : Below w2.heap.size w2 W) (hbl : b < w2.heap.size) : ∀ t (ht : t < L.length), W.cell? ⟨b, o + t, none⟩ = some L[t] :=
  fun t ht => (hb.cell (p := ⟨b, o + t, none⟩) hbl).trans (h t ht)
theorem rd_of {w : World} {b o : Nat} {L : List Value} (h : ∀ t (ht : t < L.length), w.cell? ⟨b, o + t, none⟩ = some L[t]) (hb : b < w.heap.size) : Rd w (some ⟨b, o, none⟩) L := .inr ⟨b, o, rfl, hb, h⟩
theorem src_two (w : World) (x y : ByteArray) (t : TypeId) : SrcOk (w.alloc (.cells #[.string x, .string y] t)) 2 (.slice (some ⟨w.heap.size, 0, none⟩) 1 1) 1 [.string x, .string y] := by
  refine .inr ⟨_, _, rfl, rfl, fun j u hu => ?_, ?_⟩
  · match j, hu with
    | 0, hu => simp at hu; subst hu; simp [Addr.add]
    | 1, hu => simp at hu; subst hu; simp [Addr.add]
    | n + 2, hu => simp at hu
  · intro u hu; simp at hu; rcases hu with rfl | rfl <;> rfl
theorem add_step {W : World} {H : Nat} {w2 : World} {x y : ByteArray} (hB : Below w2.heap.size w2 W) (hH : H < w2.heap.size) (q0 : w2.cell? ⟨H, 0, none⟩ = some (.string x)) (q1 : w2.cell? ⟨H, 1, none⟩ = some (.string y)) :
    Below w2.heap.size w2 W ∧ W.cell? ⟨H, 0, none⟩ = some (.string x) ∧ W.cell? ⟨H, 1, none⟩ = some (.string y) :=
  ⟨hB, (hB.cell (p := ⟨H, 0, none⟩) hH).trans q0, (hB.cell (p := ⟨H, 1, none⟩) hH).trans q1⟩

set_option maxRecDepth 100000 in
set_option maxHeartbeats 4000000 in
theorem add_any (ab ob n cap : Nat) (l : List Ab) (x y : ByteArray) (w : World) (hn : n = l.length) (hr : Rd w (some ⟨ab, ob, none⟩) (abs l)) (hab0 : ab < w.heap.size) (hs : abSmall l) (hm : n ≤ 1048576) (hcap : n ≤ cap) (hcm : cap ≤ maxLen) (hx : x.size ≤ maxLen) (hy : y.size ≤ maxLen) :
    Calls Try.prog 29 #[.slice (some ⟨ab, ob, none⟩) n cap, .agg #[.string x, .string y]] w (FlatRet w.heap.size 26 2 (addL l (x, y)).length w (abs (addL l (x, y))) (addC l (x, y))) := by
  obtain ⟨i0, hi, hz0, hz1, hz2⟩ := info_parts Try.infoAb
  have HN := hid hn
  clear hn
  unfold maxLen at hcm
  cases hok : okL l
  · have hR := hid (add_bad (x := (x, y)) hok)
    go_enter Try.func29, Try.ntmps29
    go_wp2_with (go_at_call 24; refine (ok_any _ n cap l _ HN.out (rd_below hr (by (repeat (first | with_reducible exact Below.refl _ _ | with_reducible assumption | refine Below.drew ?_ | refine below_drewN ?_ _ | (refine Below.alloc ?_ (by first | omega | (simp; done) | (simp; omega)) _) | (refine Below.setCell ?_ (by first | omega | (simp; done) | (simp; omega)) _) | (refine Below.trans ?_ (Below.mono (by assumption) (by first | omega | (simp; done) | (simp; omega)))))))) hs hm).mono ?_; rw [hok]; rintro e w1 ⟨rfl, hb1⟩)
    go_ret2
    rw [hR.out.1, hR.out.2]
    exact ⟨none, 0, rfl, World.ownsRow_nil _ _ _ _, by (repeat (first | with_reducible exact Below.refl _ _ | with_reducible assumption | refine Below.drew ?_ | refine below_drewN ?_ _ | (refine Below.alloc ?_ (by first | omega | (simp; done) | (simp; omega)) _) | (refine Below.setCell ?_ (by first | omega | (simp; done) | (simp; omega)) _) | (refine Below.trans ?_ (Below.mono (by assumption) (by first | omega | (simp; done) | (simp; omega))))))⟩
  have h30 := okL_len hok
  rw [← HN.out] at h30
  cases hab : abOk x y
  · have hR := hid (add_range (x := (x, y)) hok hab)
    go_enter Try.func29, Try.ntmps29
    go_wp2_with (first | (go_at_call 24; refine (ok_any _ n cap l _ HN.out (rd_below hr (by (repeat (first | with_reducible exact Below.refl _ _ | with_reducible assumption | refine Below.drew ?_ | refine below_drewN ?_ _ | (refine Below.alloc ?_ (by first | omega | (simp; done) | (simp; omega)) _) | (refine Below.setCell ?_ (by first | omega | (simp; done) | (simp; omega)) _) | (refine Below.trans ?_ (Below.mono (by assumption) (by first | omega | (simp; done) | (simp; omega)))))))) hs hm).mono ?_; rw [hok]; rintro e w1 ⟨rfl, hb1⟩; obtain ⟨hc1, hf1, hz1⟩ := bcell hb1; have hl1 : w.heap.size < w1.heap.size := Nat.lt_of_lt_of_le (by simp) hz1) | (go_at_call 53; refine (validAbbr_b x y _ hx hy hab).mono ?_; rintro e w2 ⟨rfl, hb2⟩))
    go_ret2
    rw [hR.out.1, hR.out.2]
    exact ⟨none, 0, rfl, World.ownsRow_nil _ _ _ _, by (repeat (first | with_reducible exact Below.refl _ _ | with_reducible assumption | refine Below.drew ?_ | refine below_drewN ?_ _ | (refine Below.alloc ?_ (by first | omega | (simp; done) | (simp; omega)) _) | (refine Below.setCell ?_ (by first | omega | (simp; done) | (simp; omega)) _) | (refine Below.trans ?_ (Below.mono (by assumption) (by first | omega | (simp; done) | (simp; omega))))))⟩
  go_enter Try.func29, Try.ntmps29
  go_wp2_with (first | (go_at_call 24; refine (ok_any _ n cap l _ HN.out (rd_below hr (by (repeat (first | with_reducible exact Below.refl _ _ | with_reducible assumption | refine Below.drew ?_ | refine below_drewN ?_ _ | (refine Below.alloc ?_ (by first | omega | (simp; done) | (simp; omega)) _) | (refine Below.setCell ?_ (by first | omega | (simp; done) | (simp; omega)) _) | (refine Below.trans ?_ (Below.mono (by assumption) (by first | omega | (simp; done) | (simp; omega)))))))) hs hm).mono ?_; rw [hok]; rintro e w1 ⟨rfl, hb1⟩; obtain ⟨hc1, hf1, hzz1⟩ := bcell hb1; have hl1 : w.heap.size < w1.heap.size := Nat.lt_of_lt_of_le (by simp) hzz1) | (go_at_call 53; refine (validAbbr_b x y _ hx hy hab).mono ?_; rintro e w2 ⟨rfl, hb2⟩))
  have hB2 : Below w.heap.size w w2 := by (repeat (first | with_reducible exact Below.refl _ _ | with_reducible assumption | refine Below.drew ?_ | refine below_drewN ?_ _ | (refine Below.alloc ?_ (by first | omega | (simp; done) | (simp; omega)) _) | (refine Below.setCell ?_ (by first | omega | (simp; done) | (simp; omega)) _) | (refine Below.trans ?_ (Below.mono (by assumption) (by first | omega | (simp; done) | (simp; omega))))))
  have q0 : w2.cell? ⟨w.heap.size, 0, none⟩ = some (.string x) := (hb2.cell (p := ⟨w.heap.size, 0, none⟩) hl1).trans ((hb1.cell (p := ⟨w.heap.size, 0, none⟩) (by simp)).trans (by simp))
  have q1 : w2.cell? ⟨w.heap.size, 1, none⟩ = some (.string y) := (hb2.cell (p := ⟨w.heap.size, 1, none⟩) hl1).trans ((hb1.cell (p := ⟨w.heap.size, 1, none⟩) (by simp)).trans (by simp))
  have hlw : w.heap.size < w2.heap.size := by have := hb2.size; omega
  have hr2 := rd_below hr hB2
  have hrd := rd_ab hr2
  have HC := hid (rd_all hr2)
  have hbl : ab < w2.heap.size := Nat.lt_of_lt_of_le hab0 hB2.size
  clear hr hr2 hb1 hb2 hc1 hf1 hzz1 hl1
  go_loopw [6] (fun i wr => ∃ k : Nat, k ≤ n ∧ i = .int .i64 k ∧ NoneUpTo (stopAt l x) k ∧ Below w2.heap.size w2 wr) (fun i _ => n - (intOf i).toNat)
  case atStart => exact ⟨0, Nat.zero_le _, rfl, none_zero _, Below.refl _ _⟩
  case round =>
    obtain ⟨k, hk, rfl, hN, hB⟩ := hrel
    have hz := hB.size
    have p0 := (hB.cell (p := ⟨w.heap.size, 0, none⟩) hlw).trans q0
    have p1 := (hB.cell (p := ⟨w.heap.size, 1, none⟩) hlw).trans q1
    have hk0 : (0 : Int) ≤ (k : Int) := by omega
    by_cases hlt : k < n
    · have hkl : k < l.length := by rw [← HN.out]; exact hlt
      have G0 := hid (by have := HC.out (k * 2) (by rw [abs_len]; omega); rw [this, ← List.getElem?_eq_getElem, abs_get0 l k hkl] : w2.cell? ⟨ab, ob + k * 2, none⟩ = some (.string l[k].1))
      have g1 := (hB.cell (p := ⟨ab, ob + k * 2, none⟩) hbl).trans G0.out
      have hkn : (k : Int) < (n : Int) := by omega
      have hd : decide ((k : Int) < (n : Int)) = true := decide_eq_true hkn
      have hdN : decide (k < n) = true := decide_eq_true hlt
      have hst := hid (stopAt_get (s := x) hkl)
      have hpl := hid (fun h => place_hit (s := x) hkl hN h)
      have hsame := hid (fun (h : placeOf l x = k) => (show (l[k].1.toList == x.toList) = hasS l x by have := place_same hok (s := x) (by rw [h]; exact hkl); simp only [h] at this; exact this))
      obtain ⟨z, hzz⟩ : ∃ z, z = l[k].1 := ⟨_, rfl⟩
      rw [← hzz] at g1 hst hsame G0
      clear hzz
      unfold lessB at hst
      cases hls : Op.bytesLess z.toList x.toList
      · have hp := hid (hpl.out (by rw [hst.out, hls]; rfl))
        have hsm := hid (hsame.out hp.out)
        go_wp2_with fail
        go_quiet (fail)
        go_wp2_with fail
        obtain ⟨w7, hw7⟩ : ∃ w7, w7 = wr.drewN nq := ⟨_, rfl⟩
        rw [← hw7]
        have hB7 : Below w2.heap.size w2 w7 := by rw [hw7]; exact below_drewN hB nq
        have hz7 := hB7.size
        have p0 := (hB7.cell (p := ⟨w.heap.size, 0, none⟩) hlw).trans q0
        have p1 := (hB7.cell (p := ⟨w.heap.size, 1, none⟩) hlw).trans q1
        clear hw7
        have g7 := (hB7.cell (p := ⟨ab, ob + k * 2, none⟩) hbl).trans G0.out
        clear g1 hB hz
        cases hhas : (z.toList == x.toList)
        · have hno := hid (hsm.out.symm.trans hhas)
          by_cases h3 : n = 30
          · have hR := hid (add_full (x := (x, y)) hok hab hno.out (by rw [← HN.out]; omega))
            have h3b : ((n : Int) == 30) = true := by simp; omega
            clear h3
            go_quiet (fail)
            go_wp2_with fail
            go_ret2
            rw [hR.out.1, hR.out.2]
            exact ⟨none, 0, rfl, World.ownsRow_nil _ _ _ _, by (repeat (first | with_reducible exact Below.refl _ _ | with_reducible assumption | refine Below.drew ?_ | refine below_drewN ?_ _ | (refine Below.alloc ?_ (by first | omega | (simp; done) | (simp; omega)) _) | (refine Below.setCell ?_ (by first | omega | (simp; done) | (simp; omega)) _) | (refine Below.trans ?_ (Below.mono (by assumption) (by first | omega | (simp; done) | (simp; omega))))))⟩
          have hR := hid (add_ok (x := (x, y)) hok hab hno.out (by rw [← HN.out]; omega))
          have h3b : ((n : Int) == 30) = false := by simp; omega
          clear h3
          go_quiet (fail)
          have hmade := World.ownsRow_made (e := 26) (size := 2) (base := w2.heap.size) (w7.drewN nq) #[] 0 (by exact hz7) (by unfold maxLen; omega) rfl
          go_wp2_with (at_builtin; refine wpList_append_src rfl _ _ 36 rfl w2.heap.size 26 i0 (.agg #[.string ByteArray.empty, .string ByteArray.empty]) 2 32 Try.underlying36 hi hz0 hz1 hz2 rfl (by decide) (.slice (some ⟨w7.heap.size, 0, none⟩) 0 0) 0 [] rfl hmade _ k (abs (l.take k)) rfl (src_take (cells_over HC.out ((below_drewN hB7 nq).alloc hz7 _) hbl) (by rw [← HN.out]; omega)) (by unfold maxLen; omega) (by omega) (by simp; omega) ?_; intro v1 w3 ho3 hg3)
          have hB3 : Below w2.heap.size w2 w3 := below_grown ((below_drewN hB7 nq).alloc hz7 _) (by simp; omega) hmade hg3
          rw [List.nil_append, Nat.zero_add] at ho3
          have hz3 := hB3.size
          clear hg3 hmade
          have hkc : k < cap := by omega
          go_region_held3 (fun W => Below w2.heap.size w2 W ∧ W.cell? ⟨w.heap.size, 0, none⟩ = some (.string x) ∧ W.cell? ⟨w.heap.size, 1, none⟩ = some (.string y)) (first | exact add_step hB3.drew hlw q0 q1 | exact add_step (hB3.alloc hz3 _).drew hlw q0 q1 | exact add_step hB4 hlw q0 q1 | exact add_step hB5 hlw q0 q1) (first | (refine step_append_src rfl _ _ 36 rfl w2.heap.size 26 i0 (.agg #[.string ByteArray.empty, .string ByteArray.empty]) 2 32 Try.underlying36 hi hz0 hz1 hz2 rfl (by decide) v1 k (abs (l.take k)) (by rfl) ((ho3.alloc _).drew) (.slice (some ⟨w3.heap.size, 0, none⟩) 1 1) 1 [.string x, .string y] (by rfl) (src_two _ _ _ _) (by unfold maxLen; omega) (by omega) (by simp; omega) ?_; intro v2 w4 ho4 hg4; have hB4 : Below w2.heap.size w2 w4 := below_grown ((hB3.alloc hz3 _).drew) (by simp; omega) ((ho3.alloc _).drew) hg4) | (refine step_append_src rfl _ _ 36 rfl w2.heap.size 26 i0 (.agg #[.string ByteArray.empty, .string ByteArray.empty]) 2 32 Try.underlying36 hi hz0 hz1 hz2 rfl (by decide) v2 (k + 1) (abs (l.take k) ++ [.string x, .string y]) (by rfl) ho4 (.slice (if cap = k then some ⟨ab, ob, none⟩ else some ⟨ab, ob + k * 2, none⟩) (n - k) (cap - k)) (n - k) (abs (l.drop k)) (by rfl) (src_tail (cells_over HC.out hB4 hbl) HN.out (by omega) hcap) (by unfold maxLen; omega) (by omega) hB4.size ?_; intro v3 w5 ho5 hg5; have hB5 : Below w2.heap.size w2 w5 := below_grown hB4 hB4.size ho4 hg5))
          have hlen : k + 1 + (n - k) = (l.take k ++ [(x, y)] ++ l.drop k).length := by rw [List.length_append, List.length_append, List.length_take, List.length_drop, ← HN.out]; first | (simp; done) | (simp; omega)
          rw [add_cells, hlen] at ho5
          go_wp2
          go_ret2
          rw [hR.out.1, hR.out.2, hp.out]
          exact flatRet_mk (owns_mono (B' := w.heap.size) ho5 (by omega)) (hB2.trans (hB5.mono (by omega)))
        · have hR := hid (add_exists (x := (x, y)) hok hab (by rw [← hsm.out, hhas]))
          go_quiet (fail)
          go_wp2_with fail
          go_ret2
          rw [hR.out.1, hR.out.2]
          exact ⟨none, 0, rfl, World.ownsRow_nil _ _ _ _, by (repeat (first | with_reducible exact Below.refl _ _ | with_reducible assumption | refine Below.drew ?_ | refine below_drewN ?_ _ | (refine Below.alloc ?_ (by first | omega | (simp; done) | (simp; omega)) _) | (refine Below.setCell ?_ (by first | omega | (simp; done) | (simp; omega)) _) | (refine Below.trans ?_ (Below.mono (by assumption) (by first | omega | (simp; done) | (simp; omega))))))⟩
      · have hgood := hid (none_next hN (by rw [hst.out, hls]; rfl))
        go_wp2_with fail
        go_quiet (fail)
        go_wp2_with fail
        go_roundw
        case rel => exact ⟨k + 1, by omega, by go_num, hgood.out, below_drewN hB _⟩
        case measure => simp [intOf]; omega
    · obtain rfl : k = n := by omega
      have hp := hid ((place_none (s := x) (by rw [← HN.out]; exact hN)).trans HN.out.symm)
      have hno := hid (place_end hok (s := x) (by rw [hp.out, HN.out]; omega))
      have hd : decide ((k : Int) < (k : Int)) = false := by simp
      have hdN : decide (k < k) = false := by simp
      go_wp2_with fail
      go_quiet (fail)
      go_wp2_with fail
      obtain ⟨w7, hw7⟩ : ∃ w7, w7 = wr.drewN nq := ⟨_, rfl⟩
      rw [← hw7]
      have hB7 : Below w2.heap.size w2 w7 := by rw [hw7]; exact below_drewN hB nq
      have hz7 := hB7.size
      have p0 := (hB7.cell (p := ⟨w.heap.size, 0, none⟩) hlw).trans q0
      have p1 := (hB7.cell (p := ⟨w.heap.size, 1, none⟩) hlw).trans q1
      clear hw7
      clear hB hz
      by_cases h3 : k = 30
      · have hR := hid (add_full (x := (x, y)) hok hab hno.out (by rw [← HN.out]; omega))
        have h3b : ((k : Int) == 30) = true := by simp; omega
        clear h3
        go_quiet (fail)
        go_wp2_with fail
        go_ret2
        rw [hR.out.1, hR.out.2]
        exact ⟨none, 0, rfl, World.ownsRow_nil _ _ _ _, by (repeat (first | with_reducible exact Below.refl _ _ | with_reducible assumption | refine Below.drew ?_ | refine below_drewN ?_ _ | (refine Below.alloc ?_ (by first | omega | (simp; done) | (simp; omega)) _) | (refine Below.setCell ?_ (by first | omega | (simp; done) | (simp; omega)) _) | (refine Below.trans ?_ (Below.mono (by assumption) (by first | omega | (simp; done) | (simp; omega))))))⟩
      have hR := hid (add_ok (x := (x, y)) hok hab hno.out (by rw [← HN.out]; omega))
      have h3b : ((k : Int) == 30) = false := by simp; omega
      clear h3
      go_quiet (fail)
      have hmade := World.ownsRow_made (e := 26) (size := 2) (base := w2.heap.size) (w7.drewN nq) #[] 0 (by exact hz7) (by unfold maxLen; omega) rfl
      go_wp2_with (at_builtin; refine wpList_append_src rfl _ _ 36 rfl w2.heap.size 26 i0 (.agg #[.string ByteArray.empty, .string ByteArray.empty]) 2 32 Try.underlying36 hi hz0 hz1 hz2 rfl (by decide) (.slice (some ⟨w7.heap.size, 0, none⟩) 0 0) 0 [] rfl hmade _ k (abs (l.take k)) rfl (src_take (cells_over HC.out ((below_drewN hB7 nq).alloc hz7 _) hbl) (by rw [← HN.out]; omega)) (by unfold maxLen; omega) (by omega) (by simp; omega) ?_; intro v1 w3 ho3 hg3)
      have hB3 : Below w2.heap.size w2 w3 := below_grown ((below_drewN hB7 nq).alloc hz7 _) (by simp; omega) hmade hg3
      rw [List.nil_append, Nat.zero_add] at ho3
      have hz3 := hB3.size
      clear hg3 hmade
      go_region_held3 (fun W => Below w2.heap.size w2 W ∧ W.cell? ⟨w.heap.size, 0, none⟩ = some (.string x) ∧ W.cell? ⟨w.heap.size, 1, none⟩ = some (.string y)) (first | exact add_step hB3.drew hlw q0 q1 | exact add_step (hB3.alloc hz3 _).drew hlw q0 q1 | exact add_step hB4 hlw q0 q1 | exact add_step hB5 hlw q0 q1) (first | (refine step_append_src rfl _ _ 36 rfl w2.heap.size 26 i0 (.agg #[.string ByteArray.empty, .string ByteArray.empty]) 2 32 Try.underlying36 hi hz0 hz1 hz2 rfl (by decide) v1 k (abs (l.take k)) (by rfl) ((ho3.alloc _).drew) (.slice (some ⟨w3.heap.size, 0, none⟩) 1 1) 1 [.string x, .string y] (by rfl) (src_two _ _ _ _) (by unfold maxLen; omega) (by omega) (by simp; omega) ?_; intro v2 w4 ho4 hg4; have hB4 : Below w2.heap.size w2 w4 := below_grown ((hB3.alloc hz3 _).drew) (by simp; omega) ((ho3.alloc _).drew) hg4) | (refine step_append_src rfl _ _ 36 rfl w2.heap.size 26 i0 (.agg #[.string ByteArray.empty, .string ByteArray.empty]) 2 32 Try.underlying36 hi hz0 hz1 hz2 rfl (by decide) v2 (k + 1) (abs (l.take k) ++ [.string x, .string y]) (by rfl) ho4 (.slice (if cap = k then some ⟨ab, ob, none⟩ else some ⟨ab, ob + k * 2, none⟩) 0 (cap - k)) 0 (abs (l.drop k)) (by rfl) (src_end HN.out) (by unfold maxLen; omega) (by omega) hB4.size ?_; intro v3 w5 ho5 hg5; have hB5 : Below w2.heap.size w2 w5 := below_grown hB4 hB4.size ho4 hg5))
      have hlen : k + 1 + 0 = (l.take k ++ [(x, y)] ++ l.drop k).length := by rw [List.length_append, List.length_append, List.length_take, List.length_drop, ← HN.out]; first | (simp; done) | (simp; omega)
      rw [add_cells, hlen] at ho5
      go_wp2
      all_goals
        go_ret2
        rw [hR.out.1, hR.out.2, hp.out]
        exact flatRet_mk (owns_mono (B' := w.heap.size) ho5 (by omega)) (hB2.trans (hB5.mono (by omega)))
def shortI (l : List Ab) (s : ByteArray) : Int := match firstAt (sameS l s) l.length with | some k => (k : Int) | none => -1
theorem short_hit {l : List Ab} {s : ByteArray} {k : Nat} (h : k < l.length) (hN : NoneUpTo (sameS l s) k) (he : sameS l s k = true) : shortI l s = k := by
  unfold shortI; rw [first_hit hN he h]
theorem short_none {l : List Ab} {s : ByteArray} (hN : NoneUpTo (sameS l s) l.length) : shortI l s = -1 := by
  unfold shortI; rw [first_none hN]
theorem short_has (l : List Ab) (s : ByteArray) : (hasS l s = false ∧ shortI l s = -1) ∨ (hasS l s = true ∧ ∃ j : Nat, shortI l s = (j : Int) ∧ j < l.length) := by
  unfold hasS shortI
  cases hf : firstAt (sameS l s) l.length with
  | none => exact .inl ⟨rfl, rfl⟩
  | some k =>
    refine .inr ⟨rfl, k, rfl, ?_⟩
    unfold firstAt at hf
    have := List.mem_of_find?_eq_some hf
    simpa using this
set_option maxHeartbeats 2000000 in
theorem sShortI_any (ao : Option Addr) (n cap : Nat) (l : List Ab) (s : ByteArray) (w : World) (hn : n = l.length) (hr : Rd w ao (abs l)) (hm : n ≤ 1048576) :
    Calls Try.prog 56 #[.slice ao n cap, .string s] w fun e w' => e = .returned (.int .i64 (shortI l s)) ∧ w = w' := by
  have HN := hid hn
  have hrd := rd_ab hr
  clear hn hr
  go_enter Try.func56, Try.ntmps56
  go_wp2_with fail
  go_loop [5] (fun i => ∃ k : Nat, k ≤ n ∧ i = .int .i64 k ∧ NoneUpTo (sameS l s) k) (fun i => n - (intOf i).toNat)
  case atStart => exact ⟨0, Nat.zero_le _, rfl, none_zero _⟩
  case round =>
    obtain ⟨k, hk, rfl, hN⟩ := hrel
    by_cases hlt : k < n
    · rcases hrd with hnil | ⟨b, o, rfl, hbl, hcell⟩
      · exact absurd (by rw [HN.out, hnil]; rfl : n = 0) (by omega)
      have hkl : k < l.length := by rw [← HN.out]; exact hlt
      obtain ⟨g1, _⟩ := hcell k hkl
      clear hcell
      have hk0 : (0 : Int) ≤ (k : Int) := by omega
      have hkn : (k : Int) < (n : Int) := by omega
      have hsg := hid (sameS_get (s := s) hkl)
      have hhit := hid (fun h => short_hit hkl hN h)
      obtain ⟨z, hz⟩ : ∃ z, z = l[k].1 := ⟨_, rfl⟩
      rw [← hz] at g1 hsg
      clear hz
      cases he : (z.toList == s.toList)
      · go_wp2
        go_round
        case rel => exact ⟨k + 1, by omega, by go_num, none_next hN (by rw [hsg.out, he])⟩
        case measure => simp [intOf]; omega
      · go_wp2
        go_ret
        exact ⟨ret_int (hhit.out (by rw [hsg.out, he])).symm, rfl⟩
    · obtain rfl : k = n := by omega
      have ha := hid (short_none (l := l) (s := s) (by rw [← HN.out]; exact hN))
      go_wp2
      go_ret
      exact ⟨ret_int ha.out.symm, rfl⟩
theorem sShortI_b {r : Int} (ao : Option Addr) (n cap : Nat) (l : List Ab) (s : ByteArray) (w : World) (hn : n = l.length) (hr : Rd w ao (abs l)) (hm : n ≤ 1048576) (h : shortI l s = r) :
    Calls Try.prog 56 #[.slice ao n cap, .string s] w fun e w' => e = .returned (.int .i64 r) ∧ w = w' := by
  subst h; exact sShortI_any ao n cap l s w hn hr hm

set_option maxRecDepth 100000 in
set_option maxHeartbeats 4000000 in
theorem sAdd_any (ab ob n cap : Nat) (l : List Ab) (x y : ByteArray) (w : World) (hn : n = l.length) (hr : Rd w (some ⟨ab, ob, none⟩) (abs l)) (hab0 : ab < w.heap.size) (hs : abSmall l) (hm : n ≤ 1048576) (hcap : n ≤ cap) (hcm : cap ≤ maxLen) (hx : x.size ≤ maxLen) (hy : y.size ≤ maxLen) :
    Calls Try.prog 28 #[.slice (some ⟨ab, ob, none⟩) n cap, .agg #[.string x, .string y]] w (FlatRet w.heap.size 26 2 (addL l (x, y)).length w (abs (addL l (x, y))) (addC l (x, y))) := by
  obtain ⟨i0, hi, hz0, hz1, hz2⟩ := info_parts Try.infoAb
  have HN := hid hn
  clear hn
  unfold maxLen at hcm
  cases hok : okL l
  · have hR := hid (add_bad (x := (x, y)) hok)
    go_enter Try.func28, Try.ntmps28
    go_wp2_with (go_at_call 55; refine (sOk_any _ n cap l _ HN.out (rd_below hr (by (repeat (first | with_reducible exact Below.refl _ _ | with_reducible assumption | refine Below.drew ?_ | refine below_drewN ?_ _ | (refine Below.alloc ?_ (by first | omega | (simp; done) | (simp; omega)) _) | (refine Below.setCell ?_ (by first | omega | (simp; done) | (simp; omega)) _) | (refine Below.trans ?_ (Below.mono (by assumption) (by first | omega | (simp; done) | (simp; omega)))))))) hs hm).mono ?_; rw [hok]; rintro e w1 ⟨rfl, hb1⟩)
    go_ret2
    rw [hR.out.1, hR.out.2]
    exact ⟨none, 0, rfl, World.ownsRow_nil _ _ _ _, by (repeat (first | with_reducible exact Below.refl _ _ | with_reducible assumption | refine Below.drew ?_ | refine below_drewN ?_ _ | (refine Below.alloc ?_ (by first | omega | (simp; done) | (simp; omega)) _) | (refine Below.setCell ?_ (by first | omega | (simp; done) | (simp; omega)) _) | (refine Below.trans ?_ (Below.mono (by assumption) (by first | omega | (simp; done) | (simp; omega))))))⟩
  have h30 := okL_len hok
  rw [← HN.out] at h30
  have HO := hid hok
  go_enter Try.func28, Try.ntmps28
  go_wp2_with (go_at_call 55; refine (sOk_any _ n cap l _ HN.out (rd_below hr (by (repeat (first | with_reducible exact Below.refl _ _ | with_reducible assumption | refine Below.drew ?_ | refine below_drewN ?_ _ | (refine Below.alloc ?_ (by first | omega | (simp; done) | (simp; omega)) _) | (refine Below.setCell ?_ (by first | omega | (simp; done) | (simp; omega)) _) | (refine Below.trans ?_ (Below.mono (by assumption) (by first | omega | (simp; done) | (simp; omega)))))))) hs hm).mono ?_; rw [hok]; rintro e w1 ⟨rfl, hb1⟩)
  have hl1 : w.heap.size < w1.heap.size := Nat.lt_of_lt_of_le (by simp) hb1.size
  have hB1 : Below w.heap.size w w1 := by (repeat (first | with_reducible exact Below.refl _ _ | with_reducible assumption | refine Below.drew ?_ | refine below_drewN ?_ _ | (refine Below.alloc ?_ (by first | omega | (simp; done) | (simp; omega)) _) | (refine Below.setCell ?_ (by first | omega | (simp; done) | (simp; omega)) _) | (refine Below.trans ?_ (Below.mono (by assumption) (by first | omega | (simp; done) | (simp; omega))))))
  have t0 : w1.cell? ⟨w.heap.size, 0, none⟩ = some (.string x) := (hb1.cell (p := ⟨w.heap.size, 0, none⟩) (by simp)).trans (by simp)
  have t1 : w1.cell? ⟨w.heap.size, 1, none⟩ = some (.string y) := (hb1.cell (p := ⟨w.heap.size, 1, none⟩) (by simp)).trans (by simp)
  clear hb1
  refine (one_any w.heap.size 0 x y _ hx hy t0 t1).mono ?_
  rintro e w2 ⟨rfl, hb2⟩
  have hB2 : Below w.heap.size w w2 := hB1.trans (hb2.mono hB1.size)
  have q0 : w2.cell? ⟨w.heap.size, 0, none⟩ = some (.string x) := (hb2.cell (p := ⟨w.heap.size, 0, none⟩) hl1).trans t0
  have q1 : w2.cell? ⟨w.heap.size, 1, none⟩ = some (.string y) := (hb2.cell (p := ⟨w.heap.size, 1, none⟩) hl1).trans t1
  have hlw : w.heap.size < w2.heap.size := by have := hb2.size; omega
  have hr2 := rd_below hr hB2
  have HC := hid (rd_all hr2)
  have hbl : ab < w2.heap.size := Nat.lt_of_lt_of_le hab0 hB2.size
  clear hb2 hl1 t0 t1 hB1
  cases hab : abOk x y
  · have hR := hid (add_range (x := (x, y)) hok hab)
    go_wp2_with fail
    go_ret2
    rw [hR.out.1, hR.out.2]
    exact ⟨none, 0, rfl, World.ownsRow_nil _ _ _ _, hB2⟩
  rcases short_has l x with ⟨hno, hsi⟩ | ⟨hyes, q, hsi, hq⟩
  case inr =>
    have hR := hid (add_exists (x := (x, y)) hok hab hyes)
    have HQ := hid hsi
    have hq0 : (0 : Int) ≤ (q : Int) := by omega
    clear hsi hyes
    go_wp2_with (go_at_call 56; refine (sShortI_b _ n cap l x _ HN.out hr2 hm HQ.out).mono ?_; rintro e w3 ⟨rfl, rfl⟩)
    go_ret2
    rw [hR.out.1, hR.out.2]
    exact ⟨none, 0, rfl, World.ownsRow_nil _ _ _ _, hB2⟩
  have hno := hid hno
  have HQ := hid hsi
  clear hsi
  by_cases h3 : (30 : Int) ≤ (n : Int)
  · have hR := hid (add_full (x := (x, y)) hok hab hno.out (by rw [← HN.out]; omega))
    go_wp2_with (go_at_call 56; refine (sShortI_b _ n cap l x _ HN.out hr2 hm HQ.out).mono ?_; rintro e w3 ⟨rfl, rfl⟩)
    go_ret2
    rw [hR.out.1, hR.out.2]
    exact ⟨none, 0, rfl, World.ownsRow_nil _ _ _ _, hB2⟩
  go_wp2_with (go_at_call 56; refine (sShortI_b _ n cap l x _ HN.out hr2 hm HQ.out).mono ?_; rintro e w3 ⟨rfl, rfl⟩)
  go_loopw [6] (fun i wr => ∃ k : Nat, k ≤ n ∧ i = .int .i64 k ∧ (∀ j, k ≤ j → (hj : j < l.length) → lessB x l[j].1 = true) ∧ Below w2.heap.size w2 wr) (fun i _ => (intOf i).toNat)
  case atStart => exact ⟨n, Nat.le_refl _, rfl, fun j h1 h2 => by rw [← HN.out] at h2; omega, Below.refl _ _⟩
  case round =>
    obtain ⟨k, hk, rfl, hup, hB⟩ := hrel
    have hz := hB.size
    have p0 := (hB.cell (p := ⟨w.heap.size, 0, none⟩) hlw).trans q0
    have p1 := (hB.cell (p := ⟨w.heap.size, 1, none⟩) hlw).trans q1
    have HUP := hid hup
    clear hup
    rcases Nat.eq_zero_or_pos k with hz0 | hpos
    · subst hz0
      have hp := hid (place_back HO.out hno.out (Nat.zero_le _) HUP.out (.inl rfl))
      have hR := hid (add_ok (x := (x, y)) hok hab hno.out (by rw [← HN.out]; omega))
      by_cases hck : cap = 0
      · obtain rfl : n = 0 := by omega
        subst hck
        go_wp2_with fail
        go_quiet (fail)
        have hmade := World.ownsRow_made (e := 26) (size := 2) (base := w2.heap.size) (wr.drewN nq) #[] 0 (by exact hz) (by unfold maxLen; omega) rfl
        go_wp2_with (first | (at_builtin; refine wpList_append_src rfl _ _ 36 rfl w2.heap.size 26 i0 (.agg #[.string ByteArray.empty, .string ByteArray.empty]) 2 32 Try.underlying36 hi hz0 hz1 hz2 rfl (by decide) (.slice (some ⟨wr.heap.size, 0, none⟩) 0 0) 0 [] rfl hmade _ 0 (abs (l.take 0)) rfl (src_take (cells_over HC.out ((below_drewN hB nq).alloc hz _) hbl) (by rw [← HN.out]; omega)) (by unfold maxLen; omega) (by omega) (by simp; omega) ?_; intro v1 w3 ho3 hg3; have hB3 : Below w2.heap.size w2 w3 := below_grown ((below_drewN hB nq).alloc hz _) (by simp; omega) hmade hg3; rw [List.nil_append, Nat.zero_add] at ho3; have hz3 := hB3.size; obtain ⟨_, r0, r1⟩ := add_step hB3 hlw q0 q1; clear hg3 hmade) | (at_builtin; refine wpList_append_src rfl _ _ 36 rfl w2.heap.size 26 i0 (.agg #[.string ByteArray.empty, .string ByteArray.empty]) 2 32 Try.underlying36 hi hz0 hz1 hz2 rfl (by decide) v1 0 (abs (l.take 0)) rfl (ho3.alloc _) (.slice (some ⟨w3.heap.size, 0, none⟩) 1 1) 1 [.string x, .string y] rfl (src_two _ _ _ _) (by unfold maxLen; omega) (by omega) (by simp; omega) ?_; intro v2 w4 ho4 hg4; have hB4 : Below w2.heap.size w2 w4 := below_grown (hB3.alloc hz3 _) (by simp; omega) (ho3.alloc _) hg4; clear hg4) | (at_builtin; refine wpList_append_src rfl _ _ 36 rfl w2.heap.size 26 i0 (.agg #[.string ByteArray.empty, .string ByteArray.empty]) 2 32 Try.underlying36 hi hz0 hz1 hz2 rfl (by decide) v2 (0 + 1) (abs (l.take 0) ++ [.string x, .string y]) rfl ho4 (.slice (some ⟨ab, ob, none⟩) 0 0) 0 (abs (l.drop 0)) rfl (src_nil HN.out) (by unfold maxLen; omega) (by omega) hB4.size ?_; intro v3 w5 ho5 hg5; have hB5 : Below w2.heap.size w2 w5 := below_grown hB4 hB4.size ho4 hg5; clear hg5))
        have hlen : 0 + 1 + 0 = (l.take 0 ++ [(x, y)] ++ l.drop 0).length := by rw [List.length_append, List.length_append, List.length_take, List.length_drop, ← HN.out]; first | (simp; done) | (simp; omega)
        rw [add_cells, hlen] at ho5
        go_ret2
        rw [hR.out.1, hR.out.2, hp.out]
        exact flatRet_mk (owns_mono (B' := w.heap.size) ho5 (by omega)) (hB2.trans (hB5.mono (by omega)))
      · go_wp2_with fail
        go_quiet (fail)
        have hmade := World.ownsRow_made (e := 26) (size := 2) (base := w2.heap.size) (wr.drewN nq) #[] 0 (by exact hz) (by unfold maxLen; omega) rfl
        go_wp2_with (first | (at_builtin; refine wpList_append_src rfl _ _ 36 rfl w2.heap.size 26 i0 (.agg #[.string ByteArray.empty, .string ByteArray.empty]) 2 32 Try.underlying36 hi hz0 hz1 hz2 rfl (by decide) (.slice (some ⟨wr.heap.size, 0, none⟩) 0 0) 0 [] rfl hmade _ 0 (abs (l.take 0)) rfl (src_take (cells_over HC.out ((below_drewN hB nq).alloc hz _) hbl) (by rw [← HN.out]; omega)) (by unfold maxLen; omega) (by omega) (by simp; omega) ?_; intro v1 w3 ho3 hg3; have hB3 : Below w2.heap.size w2 w3 := below_grown ((below_drewN hB nq).alloc hz _) (by simp; omega) hmade hg3; rw [List.nil_append, Nat.zero_add] at ho3; have hz3 := hB3.size; obtain ⟨_, r0, r1⟩ := add_step hB3 hlw q0 q1; clear hg3 hmade) | (at_builtin; refine wpList_append_src rfl _ _ 36 rfl w2.heap.size 26 i0 (.agg #[.string ByteArray.empty, .string ByteArray.empty]) 2 32 Try.underlying36 hi hz0 hz1 hz2 rfl (by decide) v1 0 (abs (l.take 0)) rfl (ho3.alloc _) (.slice (some ⟨w3.heap.size, 0, none⟩) 1 1) 1 [.string x, .string y] rfl (src_two _ _ _ _) (by unfold maxLen; omega) (by omega) (by simp; omega) ?_; intro v2 w4 ho4 hg4; have hB4 : Below w2.heap.size w2 w4 := below_grown (hB3.alloc hz3 _) (by simp; omega) (ho3.alloc _) hg4; clear hg4) | (at_builtin; refine wpList_append_src rfl _ _ 36 rfl w2.heap.size 26 i0 (.agg #[.string ByteArray.empty, .string ByteArray.empty]) 2 32 Try.underlying36 hi hz0 hz1 hz2 rfl (by decide) v2 (0 + 1) (abs (l.take 0) ++ [.string x, .string y]) rfl ho4 (.slice (some ⟨ab, ob, none⟩) n cap) n (abs (l.drop 0)) rfl (src_full (cells_over HC.out hB4 hbl) HN.out) (by unfold maxLen; omega) (by omega) hB4.size ?_; intro v3 w5 ho5 hg5; have hB5 : Below w2.heap.size w2 w5 := below_grown hB4 hB4.size ho4 hg5; clear hg5))
        have hlen : 0 + 1 + n = (l.take 0 ++ [(x, y)] ++ l.drop 0).length := by rw [List.length_append, List.length_append, List.length_take, List.length_drop, ← HN.out]; first | (simp; done) | (simp; omega)
        rw [add_cells, hlen] at ho5
        go_ret2
        rw [hR.out.1, hR.out.2, hp.out]
        exact flatRet_mk (owns_mono (B' := w.heap.size) ho5 (by omega)) (hB2.trans (hB5.mono (by omega)))
    · obtain ⟨j, hj⟩ : ∃ j, k = j + 1 := ⟨k - 1, by omega⟩
      have hjl : j < l.length := by rw [← HN.out]; omega
      have G0 : w2.cell? ⟨ab, ob + j * 2, none⟩ = some (.string l[j].1) := by have := HC.out (j * 2) (by rw [abs_len]; omega); rw [this, ← List.getElem?_eq_getElem, abs_get0 l j hjl]
      have g1 := (hB.cell (p := ⟨ab, ob + j * 2, none⟩) hbl).trans G0
      clear G0
      have hd : decide ((0 : Int) < (k : Int)) = true := by simp; omega
      have hdN : decide (0 < k) = true := by simp; omega
      have e2 : (k : Int) - 1 = (j : Int) := by omega
      have e1 : IntKind.i64.wrap ((k : Int) - 1) = (j : Int) := by rw [e2]; exact IntWalk.i64_in _ (by omega)
      have e3 : IntKind.i64.wrap (j : Int) = (j : Int) := IntWalk.i64_in _ (by omega)
      have hj0 : (0 : Int) ≤ (j : Int) := by omega
      have hjn : (j : Int) < (n : Int) := by omega
      have hback := hid (fun (h : lessB x l[j].1 = false) => place_back HO.out hno.out (k := k) (by omega) HUP.out (.inr ⟨j, hjl, hj, h⟩))
      have hmore := hid (fun (h : lessB x l[j].1 = true) => (fun q (h1 : j ≤ q) (hq : q < l.length) => (by
        by_cases e : q = j
        · subst e; exact h
        · exact HUP.out q (by omega) hq : lessB x l[q].1 = true)))
      obtain ⟨z, hzz⟩ : ∃ z, z = l[j].1 := ⟨_, rfl⟩
      rw [← hzz] at g1 hback hmore
      clear hzz
      unfold lessB at hback hmore
      have HJ := hid hj
      clear hj
      have htri := hid (bytesLess_tri x.toList z.toList)
      cases hle : Op.bytesLess z.toList x.toList <;> cases heq : (z.toList == x.toList)
      case false.false =>
        have hls : Op.bytesLess x.toList z.toList = true := by have := htri.out; rw [hle, heq] at this; simpa using this
        have hup2 := hid (hmore.out hls)
        clear hls
        go_wp2_with fail
        go_quiet (fail)
        go_wp2_with fail
        go_roundw
        case rel => exact ⟨j, by omega, by go_num, hup2.out, below_drewN hB _⟩
        case measure => have := HJ.out; simp [intOf]; omega
      all_goals
        have hls : Op.bytesLess x.toList z.toList = false := by have := htri.out; rw [hle, heq] at this; simpa using this
        have hp := hid (hback.out hls)
        clear hls
        have hR := hid (add_ok (x := (x, y)) hok hab hno.out (by rw [← HN.out]; omega))
        by_cases hck : cap = k
        · obtain rfl : n = k := by omega
          obtain rfl := hck
          go_wp2_with fail
          go_quiet (fail)
          have hmade := World.ownsRow_made (e := 26) (size := 2) (base := w2.heap.size) (wr.drewN nq) #[] 0 (by exact hz) (by unfold maxLen; omega) rfl
          go_wp2_with (first | (at_builtin; refine wpList_append_src rfl _ _ 36 rfl w2.heap.size 26 i0 (.agg #[.string ByteArray.empty, .string ByteArray.empty]) 2 32 Try.underlying36 hi hz0 hz1 hz2 rfl (by decide) (.slice (some ⟨wr.heap.size, 0, none⟩) 0 0) 0 [] rfl hmade _ cap (abs (l.take cap)) rfl (src_take (cells_over HC.out ((below_drewN hB nq).alloc hz _) hbl) (by rw [← HN.out]; omega)) (by unfold maxLen; omega) (by omega) (by simp; omega) ?_; intro v1 w3 ho3 hg3; have hB3 : Below w2.heap.size w2 w3 := below_grown ((below_drewN hB nq).alloc hz _) (by simp; omega) hmade hg3; rw [List.nil_append, Nat.zero_add] at ho3; have hz3 := hB3.size; obtain ⟨_, r0, r1⟩ := add_step hB3 hlw q0 q1; clear hg3 hmade) | (at_builtin; refine wpList_append_src rfl _ _ 36 rfl w2.heap.size 26 i0 (.agg #[.string ByteArray.empty, .string ByteArray.empty]) 2 32 Try.underlying36 hi hz0 hz1 hz2 rfl (by decide) v1 cap (abs (l.take cap)) rfl (ho3.alloc _) (.slice (some ⟨w3.heap.size, 0, none⟩) 1 1) 1 [.string x, .string y] rfl (src_two _ _ _ _) (by unfold maxLen; omega) (by omega) (by simp; omega) ?_; intro v2 w4 ho4 hg4; have hB4 : Below w2.heap.size w2 w4 := below_grown (hB3.alloc hz3 _) (by simp; omega) (ho3.alloc _) hg4; clear hg4) | (at_builtin; refine wpList_append_src rfl _ _ 36 rfl w2.heap.size 26 i0 (.agg #[.string ByteArray.empty, .string ByteArray.empty]) 2 32 Try.underlying36 hi hz0 hz1 hz2 rfl (by decide) v2 (cap + 1) (abs (l.take cap) ++ [.string x, .string y]) rfl ho4 (.slice (some ⟨ab, ob, none⟩) 0 0) 0 (abs (l.drop cap)) rfl (src_nil HN.out) (by unfold maxLen; omega) (by omega) hB4.size ?_; intro v3 w5 ho5 hg5; have hB5 : Below w2.heap.size w2 w5 := below_grown hB4 hB4.size ho4 hg5; clear hg5))
          have hlen : cap + 1 + 0 = (l.take cap ++ [(x, y)] ++ l.drop cap).length := by rw [List.length_append, List.length_append, List.length_take, List.length_drop, ← HN.out]; first | (simp; done) | (simp; omega)
          rw [add_cells, hlen] at ho5
          go_ret2
          rw [hR.out.1, hR.out.2, hp.out]
          exact flatRet_mk (owns_mono (B' := w.heap.size) ho5 (by omega)) (hB2.trans (hB5.mono (by omega)))
        · go_wp2_with fail
          go_quiet (fail)
          have hmade := World.ownsRow_made (e := 26) (size := 2) (base := w2.heap.size) (wr.drewN nq) #[] 0 (by exact hz) (by unfold maxLen; omega) rfl
          go_wp2_with (first | (at_builtin; refine wpList_append_src rfl _ _ 36 rfl w2.heap.size 26 i0 (.agg #[.string ByteArray.empty, .string ByteArray.empty]) 2 32 Try.underlying36 hi hz0 hz1 hz2 rfl (by decide) (.slice (some ⟨wr.heap.size, 0, none⟩) 0 0) 0 [] rfl hmade _ k (abs (l.take k)) rfl (src_take (cells_over HC.out ((below_drewN hB nq).alloc hz _) hbl) (by rw [← HN.out]; omega)) (by unfold maxLen; omega) (by omega) (by simp; omega) ?_; intro v1 w3 ho3 hg3; have hB3 : Below w2.heap.size w2 w3 := below_grown ((below_drewN hB nq).alloc hz _) (by simp; omega) hmade hg3; rw [List.nil_append, Nat.zero_add] at ho3; have hz3 := hB3.size; obtain ⟨_, r0, r1⟩ := add_step hB3 hlw q0 q1; clear hg3 hmade) | (at_builtin; refine wpList_append_src rfl _ _ 36 rfl w2.heap.size 26 i0 (.agg #[.string ByteArray.empty, .string ByteArray.empty]) 2 32 Try.underlying36 hi hz0 hz1 hz2 rfl (by decide) v1 k (abs (l.take k)) rfl (ho3.alloc _) (.slice (some ⟨w3.heap.size, 0, none⟩) 1 1) 1 [.string x, .string y] rfl (src_two _ _ _ _) (by unfold maxLen; omega) (by omega) (by simp; omega) ?_; intro v2 w4 ho4 hg4; have hB4 : Below w2.heap.size w2 w4 := below_grown (hB3.alloc hz3 _) (by simp; omega) (ho3.alloc _) hg4; clear hg4) | (at_builtin; refine wpList_append_src rfl _ _ 36 rfl w2.heap.size 26 i0 (.agg #[.string ByteArray.empty, .string ByteArray.empty]) 2 32 Try.underlying36 hi hz0 hz1 hz2 rfl (by decide) v2 (k + 1) (abs (l.take k) ++ [.string x, .string y]) rfl ho4 (.slice (some ⟨ab, ob + k * 2, none⟩) (n - k) (cap - k)) (n - k) (abs (l.drop k)) rfl (src_drop (cells_over HC.out hB4 hbl) HN.out (by omega)) (by unfold maxLen; omega) (by omega) hB4.size ?_; intro v3 w5 ho5 hg5; have hB5 : Below w2.heap.size w2 w5 := below_grown hB4 hB4.size ho4 hg5; clear hg5))
          have hlen : k + 1 + (n - k) = (l.take k ++ [(x, y)] ++ l.drop k).length := by rw [List.length_append, List.length_append, List.length_take, List.length_drop, ← HN.out]; first | (simp; done) | (simp; omega)
          rw [add_cells, hlen] at ho5
          go_ret2
          rw [hR.out.1, hR.out.2, hp.out]
          exact flatRet_mk (owns_mono (B' := w.heap.size) ho5 (by omega)) (hB2.trans (hB5.mono (by omega)))
end Go.Proofs.Ytkkfnmlomjlckaa
