/-
  Walks: two letters of a layout exchanged, the function that the program calls.
-/
import Derived.Test.YtaaffcffelkcdaaLayH
import Derived.Test.YtaaffcffelkcdaaLayF
namespace Go.Proofs.Ytaaffcffelkcdaa
open Go.RowKit Go.ChangeShapes Go.WideShapes
set_option linter.unusedVariables false
attribute [local go_sem ↓] Go.wp_at_zero Go.wp_at_succ

/-- block g holds the bytes l, and they may be written -/
def HoldsB (w : World) (g : Nat) (l : List UInt8) : Prop := g < w.heap.size ∧ ∀ j (hj : j < l.length), w.cell? ⟨g, j, none⟩ = some (.int .u8 (l[j].toNat : Int)) ∧ w.frozen? ⟨g, j, none⟩ = false
theorem holdsB_new (w : World) (s : ByteArray) (cap : Nat) (t : TypeId) : HoldsB ((w.alloc (.cells (bytesRow s cap) t ((bytesRow s cap).size, (bytesRow s cap).size + 1))).drew) w.heap.size s.data.toList := by
  refine ⟨by show w.heap.size < (w.heap.push _).size; simp, fun j hj => ⟨?_, ?_⟩⟩
  · show (w.alloc _).cell? _ = _
    rw [World.cell?_alloc_mark, bytesRow_at s cap j (by simpa using hj)]
    simp
  · show (w.alloc _).frozen? _ = _
    rw [World.frozen?_alloc_mark]
    have h1 : s.data.size ≤ (bytesRow s cap).size := by simp [bytesRow]
    have h2 : j < s.data.size := by simpa using hj
    rw [decide_eq_false (show ¬ (bytesRow s cap).size ≤ j by omega)]
    rfl
theorem HoldsB.below {w w' : World} {g : Nat} {l : List UInt8} (h : HoldsB w g l) (hb : Below w.heap.size w w') : HoldsB w' g l := by
  obtain ⟨h1, h2⟩ := h
  refine ⟨Nat.lt_of_lt_of_le h1 hb.size, fun j hj => ?_⟩
  rw [hb.cell (p := ⟨g, j, none⟩) h1, hb.frozen (p := ⟨g, j, none⟩) h1]
  exact h2 j hj
theorem HoldsB.store {w : World} {g : Nat} {l : List UInt8} (h : HoldsB w g l) {c : Nat} (hc : c < l.length) (v : UInt8) : HoldsB (w.setCell ⟨g, c, none⟩ (.int .u8 (v.toNat : Int))) g (l.set c v) := by
  obtain ⟨h1, h2⟩ := h
  refine ⟨by simpa using h1, fun j hj => ?_⟩
  rw [List.length_set] at hj
  rw [World.frozen?_setCell]
  refine ⟨?_, (h2 j hj).2⟩
  by_cases e : c = j
  · subst e
    rw [World.cell?_setCell_same _ _ _ (h2 c hj).1, List.getElem_set_self]
  · rw [World.cell?_setCell_other _ _ _ _ (by simp), List.getElem_set_ne e]
    exact (h2 j hj).1
theorem HoldsB.cells {w : World} {g : Nat} {l : List UInt8} (h : HoldsB w g l) : ∀ j (hj : j < l.length), w.cell? ((⟨g, 0, none⟩ : Addr).add j) = some (.int .u8 (l[j].toNat : Int)) := by
  intro j hj
  have e : ((⟨g, 0, none⟩ : Addr).add j) = ⟨g, j, none⟩ := by unfold Addr.add; split <;> simp_all
  rw [e]
  exact (h.2 j hj).1

/-- one letter changed -/
def exB (a b c : UInt8) : UInt8 := if (c.toNat : Int) = (a.toNat : Int) then b else if (c.toNat : Int) = (b.toNat : Int) then a else c
def exS (a b : UInt8) (s : ByteArray) : ByteArray := ⟨(s.data.toList.map (exB a b)).toArray⟩
def exL (rows : List ByteArray) (a b : UInt8) : List ByteArray := rows.map (exS a b)
def exTo (a b : UInt8) (s : ByteArray) (c : Nat) : List UInt8 := (s.data.toList.take c).map (exB a b) ++ s.data.toList.drop c
theorem exTo_zero (a b : UInt8) (s : ByteArray) : exTo a b s 0 = s.data.toList := by simp [exTo]
theorem exTo_len (a b : UInt8) (s : ByteArray) {c : Nat} (hc : c ≤ s.size) : (exTo a b s c).length = s.size := by
  have : s.data.toList.length = s.size := by simp
  simp [exTo]; omega
theorem exTo_all (a b : UInt8) (s : ByteArray) : (⟨(exTo a b s s.size).toArray⟩ : ByteArray) = exS a b s := by
  have h : s.data.toList.length = s.size := by simp
  unfold exTo exS
  rw [← h, List.take_length, List.drop_length, List.append_nil]
theorem exTo_next (a b : UInt8) {s : ByteArray} {c : Nat} (hc : c < s.size) : exTo a b s (c + 1) = (exTo a b s c).set c (exB a b s[c]) := by
  have h : s.data.toList.length = s.size := by simp
  unfold exTo
  have hc2 : c < s.data.toList.length := by omega
  rw [List.take_succ_eq_append_getElem hc2, List.drop_eq_getElem_cons hc2, List.map_append, List.append_assoc]
  rw [List.set_append_right _ _ (by simp; omega)]
  have e : c - (List.map (exB a b) (List.take c s.data.toList)).length = 0 := by simp; omega
  rw [e]
  simp [List.set_cons_zero]
  rfl
theorem exTo_get (a b : UInt8) {s : ByteArray} {c : Nat} (hc : c < s.size) : (exTo a b s c)[c]'(by rw [exTo_len a b s (by omega)]; exact hc) = s[c] := by
  have h : s.data.toList.length = s.size := by simp
  unfold exTo
  rw [List.getElem_append_right (by simp; omega)]
  simp only [List.length_map, List.length_take, List.getElem_drop]
  have e : min c s.data.toList.length = c := by omega
  simp only [e]
  show s.data.toList[c + (c - c)] = s[c]
  simp only [Nat.sub_self, Nat.add_zero]
  simp
  rfl
theorem exTo_same (a b : UInt8) {s : ByteArray} {c : Nat} (hc : c < s.size) (h : exB a b s[c] = s[c]) : exTo a b s (c + 1) = exTo a b s c := by
  rw [exTo_next a b hc, h]
  apply List.ext_getElem (by simp)
  intro i h1 h2
  by_cases e : c = i
  · subst e; rw [List.getElem_set_self, exTo_get a b hc]
  · rw [List.getElem_set_ne e]
theorem exB_a {a b c : UInt8} (h : (c.toNat : Int) = (a.toNat : Int)) : exB a b c = b := if_pos h
theorem exB_b {a b c : UInt8} (h : ¬ (c.toNat : Int) = (a.toNat : Int)) (h2 : (c.toNat : Int) = (b.toNat : Int)) : exB a b c = a := by unfold exB; rw [if_neg h, if_pos h2]
theorem exB_no {a b c : UInt8} (h : ¬ (c.toNat : Int) = (a.toNat : Int)) (h2 : ¬ (c.toNat : Int) = (b.toNat : Int)) : exB a b c = c := by unfold exB; rw [if_neg h, if_neg h2]
theorem exL_take {rows : List ByteArray} {a b : UInt8} {k : Nat} (hk : k < rows.length) : exL (rows.take (k + 1)) a b = exL (rows.take k) a b ++ [exS a b rows[k]] := by
  unfold exL; rw [List.take_succ_eq_append_getElem hk, List.map_append]; rfl
theorem exL_len (rows : List ByteArray) (a b : UInt8) : (exL rows a b).length = rows.length := by simp [exL]
theorem owns_slice {w : World} {B : Nat} {E : TypeId} {sz : Nat} {v : Value} {n : Nat} {xs : List Value} (h : w.ownsRow B E sz v n xs) : ∃ p c, v = .slice p n c := by
  rcases owns_form h with ⟨rfl, rfl, _⟩ | ⟨g, c, rfl, _⟩
  · exact ⟨none, 0, rfl⟩
  · exact ⟨_, c, rfl⟩
theorem strs_snoc2 (l : List ByteArray) (x : ByteArray) : strs l ++ [.string x] = strs (l ++ [x]) := by simp [strs]

set_option maxRecDepth 100000 in
set_option maxHeartbeats 8000000 in
theorem exch_any (ao : Option Addr) (n cap : Nat) (rows : List ByteArray) (a b : UInt8) (w : World) (hn : n = rows.length) (hr : Rd w ao (strs rows)) (hs : ∀ x ∈ rows, x.size ≤ 1000) (hm : n ≤ 1000) :
    Calls Try.prog 52 #[.agg #[.slice ao n cap], .int .u8 (a.toNat : Int), .int .u8 (b.toNat : Int)] w (LyRet w.heap.size w n (exL rows a b)) := by
  obtain ⟨i0, hi, iz0, iz1, iz2⟩ := info_parts Try.infoStr
  have HN := hid hn
  clear hn
  go_enter Try.func52, Try.ntmps52
  go_wp2_with fail
  obtain ⟨w1, hw1⟩ : ∃ w1, w1 = ((w.alloc (.cells #[.slice ao n cap] 28)).alloc (.cells #[.slice none 0 0] 28)).alloc (.cells #[.slice none 0 0] 28) := ⟨_, rfl⟩
  have hb1 : Below w.heap.size w w1 := by
    rw [hw1]
    (repeat (first | with_reducible exact Below.refl _ _ | with_reducible assumption | refine Below.drew ?_ | refine below_drewN ?_ _ | (refine Below.alloc ?_ (by first | omega | (simp; done) | (simp; omega)) _) | (refine Below.setCell ?_ (by first | omega | (simp; done) | (simp; omega)) _) | (refine Below.trans ?_ (Below.mono (by assumption) (by first | omega | (simp; done) | (simp; omega))))))
  have r1 : w1.cell? ⟨w.heap.size + 1, 0, none⟩ = some (.slice none 0 0) := by rw [hw1]; exact (World.cell?_alloc_past _ _ _ (by simp)).trans ((World.cell?_alloc_at _ _ _ _ (by simp)).trans rfl)
  have o1 : w1.cell? ⟨w.heap.size + 2, 0, none⟩ = some (.slice none 0 0) := by rw [hw1]; exact (World.cell?_alloc_at _ _ _ _ (by simp)).trans rfl
  have hl1 : w1.heap.size = w.heap.size + 3 := by rw [hw1]; simp
  have f1 : w1.frozen? ⟨w.heap.size + 1, 0, none⟩ = false := by rw [hw1]; exact (World.frozen?_alloc_past _ _ _ (by simp)).trans (World.frozen?_alloc_at _ _ _ _ (by simp))
  have f2 : w1.frozen? ⟨w.heap.size + 2, 0, none⟩ = false := by rw [hw1]; exact World.frozen?_alloc_at _ _ _ _ (by simp)
  rw [← hw1]
  clear hw1
  have hrd := rd_str hr
  clear hr
  have hkc := fun (w : World) (s : ByteArray) => run_bytes_of_string (P := Try.prog) w 9 72 5 s Try.underlying9 Try.underlying72 Try.underlying5
  have hown0 : w1.ownsRow (w.heap.size + 3) 9 1 (.slice none 0 0) 0 (strs (exL (rows.take 0) a b)) := World.ownsRow_nil _ _ _ _
  go_loopw [9, 10, 11, 12, 17] (fun _ _ _ _ i wr => ∃ (k c : Nat) (p : Option Addr), k ≤ n ∧ i = .int .i64 k ∧ wr.ownsRow (w.heap.size + 3) 9 1 (.slice p k c) k (strs (exL (rows.take k) a b)) ∧
    wr.cell? ⟨w.heap.size + 1, 0, none⟩ = some (.slice none 0 0) ∧ wr.frozen? ⟨w.heap.size + 1, 0, none⟩ = false ∧ wr.cell? ⟨w.heap.size + 2, 0, none⟩ = some (.slice p k c) ∧ wr.frozen? ⟨w.heap.size + 2, 0, none⟩ = false ∧ w.heap.size + 3 ≤ wr.heap.size ∧ Below w.heap.size w wr) (fun _ _ _ _ i _ => n - (intOf i).toNat)
  case atStart => exact ⟨0, 0, none, Nat.zero_le _, rfl, hown0, r1, f1, o1, f2, by omega, hb1⟩
  case round =>
    clear hown0 r1 f1 o1 f2 hl1
    obtain ⟨k, kc, kp, hk, rfl, hown, r1, f1, o1, f2, hz3, hB⟩ := hrel
    by_cases hlt : k < n
    · rcases hrd with hnil | ⟨g, o, rfl, hbl, hcell⟩
      · exact absurd (by rw [HN.out, hnil]; rfl : n = 0) (by omega)
      have hka : k < rows.length := by rw [← HN.out]; exact hlt
      have g1 := (hB.cell (p := ⟨g, o + k, none⟩) hbl).trans (hcell k hka)
      have hxs := hs _ (List.getElem_mem hka)
      have htn := hid (exL_take (a := a) (b := b) hka)
      obtain ⟨x, hx⟩ : ∃ x, x = rows[k] := ⟨_, rfl⟩
      rw [← hx] at g1 hxs htn
      clear hx hcell
      have hk0 : (0 : Int) ≤ (k : Int) := by omega
      have hkn : (k : Int) < (n : Int) := by omega
      go_wp2_with fail
      obtain ⟨cp, hcp⟩ : ∃ cp, cp = grownCap wr x.size 0 5 := ⟨_, rfl⟩
      rw [← hcp]
      clear hcp
      obtain ⟨w2, hw2⟩ : ∃ w2, w2 = (wr.alloc (.cells (bytesRow x cp) 5 ((bytesRow x cp).size, (bytesRow x cp).size + 1))).drew := ⟨_, rfl⟩
      have hH0 : HoldsB w2 wr.heap.size (exTo a b x 0) := by rw [hw2, exTo_zero]; exact holdsB_new _ _ _ _
      have hb2 : Below wr.heap.size wr w2 := by rw [hw2]; exact ((Below.refl _ _).alloc (Nat.le_refl _) _).drew
      rw [← hw2]
      clear hw2
      generalize wr = wo at *
      go_loopw [11, 12, 25] (fun _ _ i wr2 => ∃ c : Nat, c ≤ x.size ∧ i = .int .i64 c ∧ HoldsB wr2 wo.heap.size (exTo a b x c) ∧ Below wo.heap.size wo wr2) (fun _ _ i _ => x.size - (intOf i).toNat)
      case atStart => exact ⟨0, Nat.zero_le _, rfl, hH0, hb2⟩
      case round =>
        clear hH0 hb2
        obtain ⟨c, hc, rfl, hH, hB2⟩ := hrel
        have hz2 := hB2.size
        by_cases hcl : c < x.size
        · have hc0 : (0 : Int) ≤ (c : Int) := by omega
          have hcn : (c : Int) < (x.size : Int) := by omega
          have hlen := exTo_len a b x hc
          have hcm := (hH.2 c (by rw [hlen]; exact hcl)).1
          have hfz := (hH.2 c (by rw [hlen]; exact hcl)).2
          rw [exTo_get a b hcl] at hcm
          have hnx := hid (exTo_next a b hcl)
          have HLE := hid hlen
          clear hlen
          by_cases ha : (x[c].toNat : Int) = (a.toNat : Int)
          · have e1 := eqI_true ha
            have hv := hid (exB_a (b := b) ha)
            clear ha
            go_wp2
            go_roundw
            case rel => exact ⟨c + 1, by omega, by go_num, by rw [hnx.out, hv.out]; exact hH.store (by rw [HLE.out]; exact hcl) _, hB2.setCell (by simp) _⟩
            case measure => simp [intOf]; omega
          · have e1 := eqI_false ha
            by_cases hb : (x[c].toNat : Int) = (b.toNat : Int)
            · have e2 := eqI_true hb
              have hv := hid (exB_b ha hb)
              clear ha hb
              go_wp2
              go_roundw
              case rel => exact ⟨c + 1, by omega, by go_num, by rw [hnx.out, hv.out]; exact hH.store (by rw [HLE.out]; exact hcl) _, hB2.setCell (by simp) _⟩
              case measure => simp [intOf]; omega
            · have e2 := eqI_false hb
              have hv := hid (exTo_same a b hcl (exB_no ha hb))
              clear ha hb
              go_wp2
              go_roundw
              case rel => exact ⟨c + 1, by omega, by go_num, by rw [hv.out]; exact hH, hB2⟩
              case measure => simp [intOf]; omega
        · obtain rfl : c = x.size := by omega
          have hcv := run_convert_bytes_back (P := Try.prog) wr 72 9 5 ⟨wo.heap.size, 0, none⟩ cp (exTo a b x x.size) Try.underlying72 Try.underlying5 Try.underlying9 hH.cells
          rw [exTo_len a b x (Nat.le_refl _), exTo_all] at hcv
          have q2 := (hB2.cell (p := ⟨w.heap.size + 2, 0, none⟩) (show w.heap.size + 2 < wo.heap.size by omega)).trans o1
          have hown2 := owns_below hown hB2
          go_wp2_with (at_builtin; refine wpList_append_own _ rfl _ _ 22 rfl (w.heap.size + 3) 9 i0 (.string ByteArray.empty) 1 16 Try.underlying22 hi iz0 iz1 iz2 rfl (by decide) _ _ _ rfl (hown2.alloc _) ⟨_, 0, none⟩ 1 1 [.string (exS a b x)] rfl rfl (one_new _ _ _) (one_okS _) (by unfold maxLen; omega) (by omega) (by simp; omega) ?_; intro v' w3 hown3 hgrow3 _; obtain ⟨p3, c3, rfl⟩ := owns_slice hown3; have hb3 := (hB2.mono hz3).trans (below_grown ((Below.refl (w.heap.size + 3) _).alloc (by omega) _) (by simp; omega) (hown2.alloc _) hgrow3); have q3 := (hb3.cell (p := ⟨w.heap.size + 2, 0, none⟩) (by simp)).trans o1; have f3 := (hb3.frozen (p := ⟨w.heap.size + 2, 0, none⟩) (by simp)).trans f2)
          go_roundw
          case rel =>
            rw [strs_snoc2] at hown3
            refine ⟨k + 1, c3, p3, by omega, by go_num, ?_, ?_, ?_, World.cell?_setCell_same _ _ _ q3, ?_, ?_, ?_⟩
            · rw [htn.out]; exact ownsRow_setCell_below hown3 (by simp) _
            · rw [World.cell?_setCell_other _ _ _ _ (by simp)]; exact (hb3.cell (p := ⟨w.heap.size + 1, 0, none⟩) (by simp)).trans r1
            · rw [World.frozen?_setCell]; exact (hb3.frozen (p := ⟨w.heap.size + 1, 0, none⟩) (by simp)).trans f1
            · rw [World.frozen?_setCell]; exact f3
            · have := hb3.size; simp; omega
            · exact (hB.trans (hb3.mono (by omega))).setCell (by simp <;> omega) _
          case measure => simp [intOf]; omega
    · obtain rfl : k = n := by omega
      have hres : (wr.setCell ⟨w.heap.size + 1, 0, none⟩ (.slice kp k kc)).cell? ⟨w.heap.size + 1, 0, none⟩ = some (.slice kp k kc) := World.cell?_setCell_same _ _ _ r1
      have htk : rows.take k = rows := by rw [HN.out]; exact List.take_length
      have HT := hid htk
      clear htk
      go_wp2
      refine bodyPost_ret (v := .agg #[.slice kp k kc]) (by simp [results, Try.results52, go_sem, hres]) rfl ⟨kp, kc, rfl, ?_, ?_⟩
      · rw [HT.out] at hown
        exact owns_mono (ownsRow_setCell_below hown (by simp) _) (by omega)
      · exact Below.setCell hB (by simp) _
end Go.Proofs.Ytaaffcffelkcdaa
