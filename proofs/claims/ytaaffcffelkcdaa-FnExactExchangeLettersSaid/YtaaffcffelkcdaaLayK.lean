/-
  Walks: two letters of a layout exchanged, the function of the reference.
-/
import Derived.Test.YtaaffcffelkcdaaLayJ
import Derived.Test.YtaaffcffelkcdaaLayC
namespace Go.Proofs.Ytaaffcffelkcdaa
open Go.RowKit Go.ChangeShapes Go.WideShapes
set_option linter.unusedVariables false
attribute [local go_sem ↓] Go.wp_at_zero Go.wp_at_succ

theorem grown_cell {w w' : World} {g k c b : Nat} (h : w.grownBy w' (Value.slice (some ⟨g, 0, none⟩) k c).ownBlock) (hb : b < w.heap.size) (hne : g ≠ b) : w'.cell? ⟨b, 0, none⟩ = w.cell? ⟨b, 0, none⟩ :=
  World.cell?_of_block (h.block b hb (fun e => hne (by simp [Value.ownBlock] at e; exact e.symm)))
theorem grown_frozen {w w' : World} {g k c b : Nat} (h : w.grownBy w' (Value.slice (some ⟨g, 0, none⟩) k c).ownBlock) (hb : b < w.heap.size) (hne : g ≠ b) : w'.frozen? ⟨b, 0, none⟩ = w.frozen? ⟨b, 0, none⟩ :=
  World.frozen?_of_block (h.block b hb (fun e => hne (by simp [Value.ownBlock] at e; exact e.symm)))
/-- a row of texts does not lie where a slice lies -/
theorem row_apart {w : World} {B : Nat} {E : TypeId} {k : Nat} {L : List ByteArray} {x : ByteArray} {v : Value} {b : Nat} {p : Option Addr} {n c : Nat} (h : w.ownsRow B E 1 v (k + 1) (strs (L ++ [x]))) (hq : w.cell? ⟨b, 0, none⟩ = some (.slice p n c)) :
    ∃ g c, v = .slice (some ⟨g, 0, none⟩) (k + 1) c ∧ B ≤ g ∧ g ≠ b := by
  rcases owns_form h with ⟨_, h0, _⟩ | ⟨g, c, rfl, hg, _⟩
  · omega
  · refine ⟨g, c, rfl, hg, ?_⟩
    rintro rfl
    have hc := h.cellAt 0 (by omega)
    rw [hq] at hc
    cases L <;> simp [strs] at hc

set_option maxRecDepth 100000 in
set_option maxHeartbeats 8000000 in
theorem sExch_any (pa : Nat) (ao : Option Addr) (n cap : Nat) (rows : List ByteArray) (a b : UInt8) (w : World) (hwa : LyAt w pa 0 ao n cap) (hn : n = rows.length) (hr : Rd w ao (strs rows)) (hs : ∀ x ∈ rows, x.size ≤ 1000) (hm : n ≤ 1000) :
    Calls Try.prog 51 #[.pointer (some ⟨pa, 0, none⟩), .int .u8 (a.toNat : Int), .int .u8 (b.toNat : Int)] w (LyRet w.heap.size w n (exL rows a b)) := by
  obtain ⟨i0, hi, iz0, iz1, iz2⟩ := info_parts Try.infoStr
  have HN := hid hn
  clear hn
  go_enter Try.func51, Try.ntmps51
  go_wp2_with fail
  obtain ⟨w1, hw1⟩ : ∃ w1, w1 = ((w.alloc (.cells #[.slice none 0 0] 28)).alloc (.cells #[] 9)).alloc (.cells #[.slice (some ⟨w.heap.size + 1, 0, none⟩) 0 0] 28) := ⟨_, rfl⟩
  have hb1 : Below w.heap.size w w1 := by
    rw [hw1]
    (repeat (first | with_reducible exact Below.refl _ _ | with_reducible assumption | refine Below.drew ?_ | refine below_drewN ?_ _ | (refine Below.alloc ?_ (by first | omega | (simp; done) | (simp; omega)) _) | (refine Below.setCell ?_ (by first | omega | (simp; done) | (simp; omega)) _) | (refine Below.trans ?_ (Below.mono (by assumption) (by first | omega | (simp; done) | (simp; omega))))))
  have r1 : w1.cell? ⟨w.heap.size, 0, none⟩ = some (.slice none 0 0) := by rw [hw1]; exact (World.cell?_alloc_past _ _ _ (by simp <;> omega)).trans ((World.cell?_alloc_past _ _ _ (by simp)).trans ((World.cell?_alloc_at _ _ _ _ rfl).trans rfl))
  have o1 : w1.cell? ⟨w.heap.size + 2, 0, none⟩ = some (.slice (some ⟨w.heap.size + 1, 0, none⟩) 0 0) := by rw [hw1]; exact (World.cell?_alloc_at _ _ _ _ (by simp)).trans rfl
  have hl1 : w1.heap.size = w.heap.size + 3 := by rw [hw1]; simp
  have f1 : w1.frozen? ⟨w.heap.size, 0, none⟩ = false := by rw [hw1]; exact (World.frozen?_alloc_past _ _ _ (by simp <;> omega)).trans ((World.frozen?_alloc_past _ _ _ (by simp)).trans (World.frozen?_alloc_at _ _ _ _ rfl))
  have f2 : w1.frozen? ⟨w.heap.size + 2, 0, none⟩ = false := by rw [hw1]; exact World.frozen?_alloc_at _ _ _ _ (by simp)
  have hown0 : w1.ownsRow (w.heap.size + 1) 9 1 (.slice (some ⟨w.heap.size + 1, 0, none⟩) 0 0) 0 (strs (exL (rows.take 0) a b)) := by
    rw [hw1]
    have := (owns_lit0 w (.cells #[.slice none 0 0] 28) 9 (w.heap.size + 1) (by omega)).alloc (.cells #[.slice (some ⟨w.heap.size + 1, 0, none⟩) 0 0] 28)
    simpa [exL, strs] using this
  rw [← hw1]
  clear hw1
  have hrd := rd_str hr
  clear hr
  have hkc := fun (w : World) (s : ByteArray) => run_bytes_of_string (P := Try.prog) w 9 72 5 s Try.underlying9 Try.underlying72 Try.underlying5
  obtain ⟨hla, ha0⟩ := hwa
  have HA0 := hid ha0
  clear ha0
  go_loopw [8, 9, 10] (fun i _ _ wr => ∃ (k c g0 : Nat), k ≤ n ∧ i = .int .i64 k ∧ g0 ≠ w.heap.size + 2 ∧ wr.ownsRow (w.heap.size + 1) 9 1 (.slice (some ⟨g0, 0, none⟩) k c) k (strs (exL (rows.take k) a b)) ∧
    wr.cell? ⟨w.heap.size, 0, none⟩ = some (.slice none 0 0) ∧ wr.frozen? ⟨w.heap.size, 0, none⟩ = false ∧ wr.cell? ⟨w.heap.size + 2, 0, none⟩ = some (.slice (some ⟨g0, 0, none⟩) k c) ∧ wr.frozen? ⟨w.heap.size + 2, 0, none⟩ = false ∧ w.heap.size + 3 ≤ wr.heap.size ∧ Below w.heap.size w wr) (fun i _ _ _ => n - (intOf i).toNat)
  case atStart => exact ⟨0, 0, w.heap.size + 1, Nat.zero_le _, rfl, by omega, hown0, r1, f1, o1, f2, by omega, hb1⟩
  case round =>
    clear hown0 r1 f1 o1 f2 hl1
    obtain ⟨k, kc, g0, hk, rfl, hg0, hown, r1, f1, o1, f2, hz3, hB⟩ := hrel
    have qa := (hB.cell (p := ⟨pa, 0, none⟩) hla).trans HA0.out
    have hg00 : w.heap.size + 1 ≤ g0 := (hown.lt g0 rfl).1
    by_cases hlt : k < n
    · rcases hrd with hnil | ⟨g, o, rfl, hbl, hcell⟩
      · exact absurd (by rw [HN.out, hnil]; rfl : n = 0) (by omega)
      have hka : k < rows.length := by rw [← HN.out]; exact hlt
      have g1 := (hB.cell (p := ⟨g, o + k, none⟩) hbl).trans (hcell k hka)
      have hxs := hs _ (List.getElem_mem hka)
      have htn := hid (exL_take (a := a) (b := b) hka)
      obtain ⟨x, hx⟩ : ∃ x, x = rows[k] := ⟨_, rfl⟩
      rw [← hx] at g1 hxs htn
      clear hx hcell
      have hk0 : (0 : Int) ≤ (k : Int) := by omega
      have hkn : (k : Int) < (n : Int) := by omega
      go_wp2_with fail
      obtain ⟨cp, hcp⟩ : ∃ cp, cp = grownCap wr x.size 0 5 := ⟨_, rfl⟩
      rw [← hcp]
      clear hcp
      obtain ⟨w2, hw2⟩ : ∃ w2, w2 = (wr.alloc (.cells (bytesRow x cp) 5 ((bytesRow x cp).size, (bytesRow x cp).size + 1))).drew := ⟨_, rfl⟩
      have hH0 : HoldsB w2 wr.heap.size (exTo a b x 0) := by rw [hw2, exTo_zero]; exact holdsB_new _ _ _ _
      have hb2 : Below wr.heap.size wr w2 := by rw [hw2]; exact ((Below.refl _ _).alloc (Nat.le_refl _) _).drew
      rw [← hw2]
      clear hw2
      generalize wr = wo at *
      go_loopw [10] (fun i wr2 => ∃ c : Nat, c ≤ x.size ∧ i = .int .i64 c ∧ HoldsB wr2 wo.heap.size (exTo a b x c) ∧ Below wo.heap.size wo wr2) (fun i _ => x.size - (intOf i).toNat)
      case atStart => exact ⟨0, Nat.zero_le _, rfl, hH0, hb2⟩
      case round =>
        clear hH0 hb2
        obtain ⟨c, hc, rfl, hH, hB2⟩ := hrel
        have hz2 := hB2.size
        by_cases hcl : c < x.size
        · have hc0 : (0 : Int) ≤ (c : Int) := by omega
          have hcn : (c : Int) < (x.size : Int) := by omega
          have hlen := exTo_len a b x hc
          have hcm := (hH.2 c (by rw [hlen]; exact hcl)).1
          have hfz := (hH.2 c (by rw [hlen]; exact hcl)).2
          rw [exTo_get a b hcl] at hcm
          have hnx := hid (exTo_next a b hcl)
          have HLE := hid hlen
          clear hlen
          by_cases ha : (x[c].toNat : Int) = (a.toNat : Int)
          · have e1 := eqI_true ha
            have hv := hid (exB_a (b := b) ha)
            clear ha
            go_wp2
            go_roundw
            case rel => exact ⟨c + 1, by omega, by go_num, by rw [hnx.out, hv.out]; exact hH.store (by rw [HLE.out]; exact hcl) _, hB2.setCell (by simp) _⟩
            case measure => simp [intOf]; omega
          · have e1 := eqI_false ha
            by_cases hb : (x[c].toNat : Int) = (b.toNat : Int)
            · have e2 := eqI_true hb
              have hv := hid (exB_b ha hb)
              clear ha hb
              go_wp2
              go_roundw
              case rel => exact ⟨c + 1, by omega, by go_num, by rw [hnx.out, hv.out]; exact hH.store (by rw [HLE.out]; exact hcl) _, hB2.setCell (by simp) _⟩
              case measure => simp [intOf]; omega
            · have e2 := eqI_false hb
              have hv := hid (exTo_same a b hcl (exB_no ha hb))
              clear ha hb
              go_wp2
              go_roundw
              case rel => exact ⟨c + 1, by omega, by go_num, by rw [hv.out]; exact hH, hB2⟩
              case measure => simp [intOf]; omega
        · obtain rfl : c = x.size := by omega
          have hcv := run_convert_bytes_back (P := Try.prog) wr 72 9 5 ⟨wo.heap.size, 0, none⟩ cp (exTo a b x x.size) Try.underlying72 Try.underlying5 Try.underlying9 hH.cells
          rw [exTo_len a b x (Nat.le_refl _), exTo_all] at hcv
          have q2 := (hB2.cell (p := ⟨w.heap.size + 2, 0, none⟩) (show w.heap.size + 2 < wo.heap.size by omega)).trans o1
          have hown2 := owns_below hown hB2
          go_wp2_with (at_builtin; refine wpList_append_own _ rfl _ _ 22 rfl (w.heap.size + 1) 9 i0 (.string ByteArray.empty) 1 16 Try.underlying22 hi iz0 iz1 iz2 rfl (by decide) (.slice (some ⟨g0, 0, none⟩) k kc) _ _ rfl (hown2.alloc _) ⟨_, 0, none⟩ 1 1 [.string (exS a b x)] rfl rfl (one_new _ _ _) (one_okS _) (by unfold maxLen; omega) (by omega) (by simp; omega) ?_; intro v' w3 hown3 hgrow3 _; have hb3 := (hB2.mono (show w.heap.size + 1 ≤ wo.heap.size by omega)).trans (below_grown ((Below.refl (w.heap.size + 1) _).alloc (by omega) _) (by simp; omega) (hown2.alloc _) hgrow3); have q3 := ((grown_cell hgrow3 (show w.heap.size + 2 < _ by simp; omega) hg0).trans (((Below.refl wr.heap.size wr).alloc (Nat.le_refl _) _).cell (p := ⟨w.heap.size + 2, 0, none⟩) (show w.heap.size + 2 < wr.heap.size by omega))).trans q2; have f3 := ((grown_frozen hgrow3 (show w.heap.size + 2 < _ by simp; omega) hg0).trans (((Below.refl wr.heap.size wr).alloc (Nat.le_refl _) _).frozen (p := ⟨w.heap.size + 2, 0, none⟩) (show w.heap.size + 2 < wr.heap.size by omega))).trans ((hB2.frozen (p := ⟨w.heap.size + 2, 0, none⟩) (show w.heap.size + 2 < wo.heap.size by omega)).trans f2); rw [strs_snoc2] at hown3; obtain ⟨g3, c3, rfl, hg3, hg3n⟩ := row_apart hown3 q3)
          go_roundw
          case rel =>
            refine ⟨k + 1, c3, g3, by omega, by go_num, hg3n, ?_, ?_, ?_, World.cell?_setCell_same _ _ _ q3, ?_, ?_, ?_⟩
            · rw [htn.out]; exact ownsRow_setCell_other hown3 (by simp [Value.ownBlock]; omega) _
            · rw [World.cell?_setCell_other _ _ _ _ (by simp)]; exact (hb3.cell (p := ⟨w.heap.size, 0, none⟩) (by simp)).trans r1
            · rw [World.frozen?_setCell]; exact (hb3.frozen (p := ⟨w.heap.size, 0, none⟩) (by simp)).trans f1
            · rw [World.frozen?_setCell]; exact f3
            · have := hb3.size; simp; omega
            · exact (hB.trans (hb3.mono (by omega))).setCell (by simp <;> omega) _
          case measure => simp [intOf]; omega
    · obtain rfl : k = n := by omega
      have hres : (wr.setCell ⟨w.heap.size, 0, none⟩ (.slice (some ⟨g0, 0, none⟩) k kc)).cell? ⟨w.heap.size, 0, none⟩ = some (.slice (some ⟨g0, 0, none⟩) k kc) := World.cell?_setCell_same _ _ _ r1
      have htk : rows.take k = rows := by rw [HN.out]; exact List.take_length
      have HT := hid htk
      clear htk
      go_wp2
      refine bodyPost_ret (v := .agg #[.slice (some ⟨g0, 0, none⟩) k kc]) (by simp [results, Try.results51, go_sem, hres]) rfl ⟨_, kc, rfl, ?_, ?_⟩
      · rw [HT.out] at hown
        exact owns_mono (ownsRow_setCell_below hown (by simp) _) (by omega)
      · exact Below.setCell hB (by simp) _
end Go.Proofs.Ytaaffcffelkcdaa
