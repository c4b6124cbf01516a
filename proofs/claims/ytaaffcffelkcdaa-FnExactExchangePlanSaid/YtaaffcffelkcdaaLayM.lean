/-
  Walks: the plan of exchanges, the function of the reference.
-/
import Derived.Test.YtaaffcffelkcdaaLayL
import Derived.Test.YtaaffcffelkcdaaLayK
namespace Go.Proofs.Ytaaffcffelkcdaa
open Go.RowKit Go.ChangeShapes Go.WideShapes
set_option linter.unusedVariables false
attribute [local go_sem ↓] Go.wp_at_zero Go.wp_at_succ

theorem owns_lit (w : World) (E : TypeId) (B : Nat) (hB : B ≤ w.heap.size) : (w.alloc (.cells #[] E)).ownsRow B E 1 (.slice (some ⟨w.heap.size, 0, none⟩) 0 0) 0 [] := by
  have h := World.ownsRow_made (e := E) (size := 1) (base := B) w #[] 0 hB (by unfold maxLen; omega) rfl
  simpa using h
/-- the cells of a row, as the law on append asks them -/
theorem rd_news {w : World} {ga oa : Nat} {l : List ByteArray} (h : ∀ j (hj : j < l.length), w.cell? ⟨ga, oa + j, none⟩ = some (.string l[j])) : ∀ j u, (strs l)[j]? = some u → w.cell? ((⟨ga, oa, none⟩ : Addr).add j) = some u := by
  intro j u hj
  rw [strs, List.getElem?_map] at hj
  rcases Nat.lt_or_ge j l.length with hlt | hge
  · rw [List.getElem?_eq_getElem hlt] at hj
    simp at hj
    subst hj
    have e : (⟨ga, oa, none⟩ : Addr).add j = ⟨ga, oa + j, none⟩ := by
      by_cases h0 : j = 0
      · subst h0; simp [Addr.add]
      · simp [Addr.add, h0]
    rw [e]
    exact h j hlt
  · rw [List.getElem?_eq_none hge] at hj
    simp at hj
theorem strs_one (l : List ByteArray) : ∀ u ∈ strs l, u.oneCell' = true := by
  intro u hu
  simp [strs] at hu
  obtain ⟨x, _, rfl⟩ := hu
  rfl
/-- the two rows at hand: the plan, and the box of the layout that is turned into the other -/
structure SAt (w wr : World) (X n : Nat) (v : Value) (st : Pl) : Prop where
  size : X < wr.heap.size
  base : w.heap.size + 1 ≤ X
  below : Below w.heap.size w wr
  frz : wr.frozen? ⟨X, 0, none⟩ = false
  rows : ∃ (p : Option Addr) (c g cp : Nat), v = .slice (some ⟨g, 0, none⟩) st.2.length cp ∧ wr.ownsRow w.heap.size 9 1 (.slice (some ⟨g, 0, none⟩) st.2.length cp) st.2.length (strs st.2) ∧ g ≠ X ∧
    wr.cell? ⟨X, 0, none⟩ = some (.slice p n c) ∧ Rd wr p (strs st.1) ∧ ∀ q, p = some q → q.block ≠ g
theorem sAtDrewN {w wr : World} {X n : Nat} {v : Value} {st : Pl} (h : SAt w wr X n v st) (m : Nat) : SAt w (wr.drewN m) X n v st := by
  obtain ⟨h1, h2, h3, h4, p, c, g, cp, e1, e2, e6, e3, e4, e5⟩ := h
  exact ⟨h1, h2, below_drewN h3 _, h4, p, c, g, cp, e1, owns_drewN e2 _, e6, e3, rd_drewN e4 _, e5⟩

set_option maxRecDepth 100000 in
set_option maxHeartbeats 8000000 in
theorem sPlan_any (pa pb : Nat) (ao : Option Addr) (n cap : Nat) (ra : List ByteArray) (bo : Option Addr) (cap2 : Nat) (rb : List ByteArray) (w : World) (hwa : LyAt w pa 0 ao n cap) (hwb : LyAt w pb 0 bo n cap2) (h0 : bothC ra rb = 0)
    (hn : n = ra.length) (hr : Rd w ao (strs ra)) (hr2 : Rd w bo (strs rb)) :
    Calls Try.prog 53 #[.pointer (some ⟨pa, 0, none⟩), .pointer (some ⟨pb, 0, none⟩)] w (RowRet1 w.heap.size 9 w (strs (plTo ra rb rb.length).2)) := by
  obtain ⟨i0, hi, iz0, iz1, iz2⟩ := info_parts Try.infoStr
  obtain ⟨e3, e4, _, hrb12⟩ := both_rows h0
  have h1n : 1 ≤ ra.length := (lay_true (both_zero h0).1).1
  have hn4 : n ≤ 4 := by omega
  have hn1 : 1 ≤ n := by omega
  have HN := hid hn
  have HN2 := hid (show n = rb.length by omega)
  have hsh := hid (fun r (hr : r ≤ ra.length) => shape_to h0 r hr)
  have hshr := hid (fun r (st : Pl) (h : Shape ra st.1) c => shape_row (rb := rb) (r := r) h c)
  have hsz := hid (fun r (hr : r < ra.length) => ((both_zero h0).2.2.2 r hr).1)
  have hle := hid (fun x (h : Shape ra x) => shape_le h0 h)
  have HRB := hid hrb12
  have hla : (strs ra).length = n * 1 := by rw [strs_len]; omega
  clear hn e3 e4 hrb12
  have hkc := two_text
  rcases rd_str hr with hnil | ⟨ga, oa, rfl, hga, hca⟩
  · rw [hnil] at h1n; simp at h1n
  clear h1n
  obtain ⟨hpa, qa⟩ := hwa
  obtain ⟨hpb, qb⟩ := hwb
  have hnews := hid (fun W (hb : Below w.heap.size w W) => rd_news (w := W) (ga := ga) (oa := oa) (l := ra) (fun j hj => (hb.cell (p := ⟨ga, oa + j, none⟩) hga).trans (hca j hj)))
  clear hca
  have hb2 : Below w.heap.size w ((w.alloc (.cells #[] 9)).alloc (.cells #[] 9)) := by (repeat (first | with_reducible exact Below.refl _ _ | with_reducible assumption | refine Below.drew ?_ | refine below_drewN ?_ _ | (refine Below.alloc ?_ (by first | omega | (simp; done) | (simp; omega)) _) | (refine Below.setCell ?_ (by first | omega | (simp; done) | (simp; omega)) _) | (refine Below.trans ?_ (Below.mono (by assumption) (by first | omega | (simp; done) | (simp; omega))))))
  have hlit := owns_lit0 w (.cells #[] 9) 9 (w.heap.size + 1) (by omega)
  have hout := (owns_lit w 9 w.heap.size (Nat.le_refl _)).alloc (.cells #[] 9)
  have HLA := hid hla
  clear hla
  go_enter Try.func53, Try.ntmps53
  go_wp2_with (at_builtin; refine wpList_append_own_at _ rfl _ _ 22 rfl (w.heap.size + 1) 9 i0 (.string ByteArray.empty) 1 16 Try.underlying22 hi iz0 iz1 iz2 rfl (by decide) (.slice (some ⟨w.heap.size + 1, 0, none⟩) 0 0) 0 [] rfl hlit ⟨ga, oa, none⟩ n cap (strs ra) rfl HLA.out (hnews.out _ hb2) (strs_one ra) (by unfold maxLen; omega) (by omega) (by simp) ?_; intro v3 w3 hown3 hgrow3 hnil3 hat3; have hout3 := hout.kept hgrow3 (.inr (by simp [Value.ownBlock])); have hb3 := below_grown hb2 (by simp; omega) (owns_mono hlit (by omega)) hgrow3; have hz3 := hgrow3.size; rw [Nat.zero_add, List.nil_append] at hown3; rcases owns_form hown3 with ⟨_, h00, _⟩ | ⟨g3, c3, rfl, hg3a, hg3b, _⟩; (exfalso; omega))
  obtain ⟨w1, hw1⟩ : ∃ w1, w1 = w3.alloc (.cells #[.slice (some ⟨g3, 0, none⟩) n c3] 28) := ⟨_, rfl⟩
  obtain ⟨X, hX⟩ : ∃ X, X = w3.heap.size := ⟨_, rfl⟩
  have hz33 : w.heap.size + 2 ≤ w3.heap.size := by simp at hz3; omega
  have hA0 : SAt w w1 X n (.slice (some ⟨w.heap.size, 0, none⟩) 0 0) (plTo ra rb 0) := by
    rw [hw1, hX]
    refine ⟨by simp, by omega, hb3.alloc (by omega) _, World.frozen?_alloc_at _ _ _ _ rfl, _, c3, w.heap.size, 0, rfl, ?_, by omega, (World.cell?_alloc_at _ _ _ _ rfl).trans rfl, ?_, ?_⟩
    · simpa [plTo, strs] using hout3.alloc (.cells #[.slice (some ⟨g3, 0, none⟩) n c3] 28)
    · exact owns_rdN (hown3.alloc _)
    · intro q hq
      cases hq
      show g3 ≠ w.heap.size
      omega
  rw [← hX, ← hw1]
  clear hw1 hX hown3 hgrow3 hout3 hb3 hz3 hz33 hnil3 hat3 hg3a hg3b hlit hout hb2
  have hrd2 := rd_str hr2
  clear hr2 hr hnews HLA
  go_loopw [5, 7, 8, 9, 10] (fun v i _ _ _ wr => ∃ k : Nat, k ≤ n ∧ i = .int .i64 k ∧ SAt w wr X n v (plTo ra rb k)) (fun _ i _ _ _ _ => n - (intOf i).toNat)
  case atStart => exact ⟨0, Nat.zero_le _, rfl, hA0⟩
  case round =>
    clear hA0
    obtain ⟨k, hk, rfl, hA⟩ := hrel
    have hB := hA.below
    have qb1 := (hB.cell (p := ⟨pb, 0, none⟩) hpb).trans qb
    by_cases hlt : k < n
    · rcases hrd2 with hnil | ⟨g2, o2, rfl, hbl2, hcell2⟩
      · exact absurd (by rw [HN2.out, hnil]; rfl : n = 0) (by omega)
      have hkb : k < rb.length := by rw [← HN2.out]; exact hlt
      have hka : k < ra.length := by rw [← HN.out]; exact hlt
      have GB := hid (rows_cell hcell2 hkb)
      have hy12 := HRB.out k hkb
      have hst := hsh.out k (by omega)
      have hnext : plTo ra rb (k + 1) = plRow rb k (plTo ra rb k) (rowAt rb k).size := rfl
      have HNX := hid hnext
      have hzero : plRow rb k (plTo ra rb k) 0 = plTo ra rb k := rfl
      have hsame := hid (fun st c h1 h2 h => pl_same (rb := rb) (r := k) (c := c) (st := st) h1 h2 h)
      have hdiff := hid (fun st c h1 h2 h => pl_diff (rb := rb) (r := k) (c := c) (st := st) h1 h2 h)
      have hxy := hsz.out k hka
      clear hnext
      have hk0 : (0 : Int) ≤ (k : Int) := by omega
      have hkn : (k : Int) < (n : Int) := by omega
      obtain ⟨y, hy⟩ : ∃ y, y = rowAt rb k := ⟨_, rfl⟩
      rw [← hy] at hy12 hxy GB HNX
      have HY := hid hy
      clear hy hcell2
      rw [← hzero] at hA
      go_wp2_with fail
      clear qb1 hB
      go_loopw [5, 8, 9, 10] (fun v i _ _ wr2 => ∃ c : Nat, c ≤ y.size ∧ i = .int .i64 c ∧ SAt w wr2 X n v (plRow rb k (plTo ra rb k) c)) (fun _ i _ _ _ => y.size - (intOf i).toNat)
      case atStart => exact ⟨0, Nat.zero_le _, rfl, hA⟩
      case round =>
        clear hA
        obtain ⟨c, hc, rfl, hA⟩ := hrel
        have hB := hA.below
        have qb1 := (hB.cell (p := ⟨pb, 0, none⟩) hpb).trans qb
        have g2c := (hB.cell (p := ⟨g2, o2 + k, none⟩) hbl2).trans GB.out
        by_cases hcl : c < y.size
        · have hsc := hshr.out k _ hst.1 c
          have hstep : plRow rb k (plTo ra rb k) (c + 1) = plStep rb k (plRow rb k (plTo ra rb k) c) c := rfl
          have HST := hid hstep
          clear hstep
          obtain ⟨st, hstv⟩ : ∃ st, st = plRow rb k (plTo ra rb k) c := ⟨_, rfl⟩
          rw [← hstv] at hA hsc HST
          clear hstv
          obtain ⟨hshape, hlen⟩ := hsc
          have hl60 : st.2.length ≤ 100 := by have := hst.2; omega
          have HSH := hid hshape
          have HA := hid hA
          obtain ⟨hz, hX0, _, f0, p2, c2, g3, cp3, rfl, hown, hg3X, qa, hrx, hpg⟩ := hA
          rcases rd_str hrx with hnil | ⟨gx, ox, rfl, hblx, hcellx⟩
          · exfalso; have := hshape.1; rw [hnil] at this; simp at this; omega
          have hkx : k < st.1.length := by rw [hshape.1]; exact hka
          have gx1 := rows_cell hcellx hkx
          have hxs : (rowAt st.1 k).size = y.size := (hshape.2 k hka).trans hxy
          have hsm := hid (fun h1 h2 h => (HST.out.trans (hsame.out st c h1 h2 h)))
          have hdf := hid (fun h1 h2 h => (HST.out.trans (hdiff.out st c h1 h2 h)))
          rw [← HY.out] at hsm hdf
          have hlx := hid (hle.out _ hshape)
          have hnx := hid (show n = st.1.length by rw [hshape.1]; exact HN.out)
          obtain ⟨x, hx⟩ : ∃ x, x = rowAt st.1 k := ⟨_, rfl⟩
          rw [← hx] at gx1 hxs hsm hdf
          clear hx hcellx hshape hkx
          have hc0 : (0 : Int) ≤ (c : Int) := by omega
          have hcn : (c : Int) < (y.size : Int) := by omega
          have hcx : c < x.size := by omega
          have hcxi : (c : Int) < (x.size : Int) := by omega
          by_cases heq : (x[c].toNat : Int) = (y[c].toNat : Int)
          · have hs := hid (hsm.out hcx hcl heq)
            have e1 := neI_false heq
            clear heq
            go_wp2_with fail
            go_roundw
            case rel => exact ⟨c + 1, by omega, by go_num, by rw [hs.out]; exact HA.out⟩
            case measure => simp [intOf]; omega
          · have hd := hid (hdf.out hcx hcl heq)
            have e1 := neI_true heq
            clear heq
            have hg3b : g3 < wr.heap.size := (hown.lt g3 rfl).2
            go_wp2_with fail
            refine (sExch_any X (some ⟨gx, ox, none⟩) n c2 st.1 x[c] y[c] _ ⟨hz, qa⟩ hnx.out hrx hlx.out (by omega)).mono ?_
            rintro e w6 ⟨bo6, c6, rfl, hown6, hb6⟩
            have qa6 := (hb6.cell (p := ⟨X, 0, none⟩) hz).trans qa
            have f06 := (hb6.frozen (p := ⟨X, 0, none⟩) hz).trans f0
            have hz6 := hb6.size
            have hown7 := ownsRow_setCell_other (owns_below hown hb6) (a := ⟨X, 0, none⟩) (by simp [Value.ownBlock]; exact hg3X) (.slice bo6 n c6)
            have hs6 : (w6.setCell ⟨X, 0, none⟩ (.slice bo6 n c6)).heap.size = w6.heap.size := by simp
            have hkc2 := two_text (w6.setCell ⟨X, 0, none⟩ (.slice bo6 n c6)) x[c] y[c]
            have hone := one_new2 (w6.setCell ⟨X, 0, none⟩ (.slice bo6 n c6)) (.cells #[.int .u8 (x[c].toNat : Int), .int .u8 (y[c].toNat : Int)] 5) (.string (twoT x[c] y[c])) 9
            rw [hs6] at hkc2 hone
            have HONE := hid hone
            clear hone hs6
            go_wp2_with (at_builtin; refine wpList_append_own_at _ rfl _ _ 22 rfl w.heap.size 9 i0 (.string ByteArray.empty) 1 16 Try.underlying22 hi iz0 iz1 iz2 rfl (by decide) (.slice (some ⟨g3, 0, none⟩) st.2.length cp3) _ _ rfl ((hown7.alloc _).alloc _) ⟨_, 0, none⟩ 1 1 [.string (twoT x[c] y[c])] rfl rfl HONE.out (one_okS _) (by unfold maxLen; omega) (by omega) (by simp; omega) ?_; intro v8 w8 hown8 hgrow8 hnil8 hat8)
            go_roundw
            case rel =>
              refine ⟨c + 1, by omega, by go_num, ?_⟩
              rw [hd.out]
              rw [strs_snoc2] at hown8
              obtain ⟨w7, hw7⟩ : ∃ w7, w7 = w6.setCell ⟨X, 0, none⟩ (.slice bo6 n c6) := ⟨_, rfl⟩
              rw [← hw7] at hown7 hgrow8 hat8
              have hz7 : w7.heap.size = w6.heap.size := by rw [hw7]; simp
              have q7 : w7.cell? ⟨X, 0, none⟩ = some (.slice bo6 n c6) := by rw [hw7]; exact World.cell?_setCell_same _ _ _ qa6
              have f7 : w7.frozen? ⟨X, 0, none⟩ = false := by rw [hw7, World.frozen?_setCell]; exact f06
              have hB7 : Below w.heap.size w w7 := by rw [hw7]; exact (hB.trans (hb6.mono hB.size)).setCell (by simp; omega) _
              have hrx7 : Rd w7 bo6 (strs (exL st.1 x[c] y[c])) := by rw [hw7]; exact owns_rdN (ownsRow_setCell_below hown6 (a := ⟨X, 0, none⟩) (by simp; omega) (.slice bo6 n c6))
              have hbo6 : ∀ q, bo6 = some q → wr.heap.size ≤ q.block ∧ q.block < w7.heap.size := by
                intro q hq
                rcases owns_form hown6 with ⟨h1, _⟩ | ⟨g6, _, h1, hg6, hg6b, _⟩
                · simp at h1; rw [h1.1] at hq; cases hq
                · simp at h1; rw [h1.1] at hq; cases hq; exact ⟨hg6, by rw [hz7]; exact hg6b⟩
              rcases owns_form hown8 with ⟨_, h00, _⟩ | ⟨g8, cp8, rfl, hg8a, hg8b, _⟩
              · exfalso; omega
              have hal : Below w7.heap.size w7 ((w7.alloc (.cells #[.int .u8 (x[c].toNat : Int), .int .u8 (y[c].toNat : Int)] 5)).alloc (.cells #[.string (twoT x[c] y[c])] 9)) := ((Below.refl w7.heap.size w7).alloc (Nat.le_refl _) _).alloc (by simp) _
              have hg8 : g8 = g3 ∨ w7.heap.size ≤ g8 := by
                rcases hat8 with h | h
                · simp [Value.ownBlock] at h; exact .inl h
                · simp [Value.ownBlock] at h; exact .inr (by omega)
              have hz8 := hgrow8.size
              simp at hz8
              refine ⟨by omega, hX0, below_grown (hB7.trans (hal.mono hB7.size)) (by have := hB7.size; simp; omega) ((hown7.alloc _).alloc _) hgrow8, ?_, bo6, c6, g8, cp8, by simp, ?_, by omega, ?_, ?_, ?_⟩
              · exact (grown_frozen hgrow8 (show X < _ by simp; omega) hg3X).trans ((hal.frozen (p := ⟨X, 0, none⟩) (show X < w7.heap.size by omega)).trans f7)
              · simpa using hown8
              · exact (grown_cell hgrow8 (show X < _ by simp; omega) hg3X).trans ((hal.cell (p := ⟨X, 0, none⟩) (show X < w7.heap.size by omega)).trans q7)
              · exact grown_rd hgrow8 (rd_below hrx7 hal) (fun q hq => by have := hbo6 q hq; omega)
              · intro q hq
                have := hbo6 q hq
                omega
            case measure => simp [intOf]; omega
        · obtain rfl : c = y.size := by omega
          go_wp2
          go_roundw
          case rel => exact ⟨k + 1, by omega, by go_num, by rw [HNX.out]; exact hA⟩
          case measure => simp [intOf]; omega
    · obtain rfl : k = n := by omega
      obtain ⟨p, c, g, cp, rfl, hown, _⟩ := hA.rows
      have e : plTo ra rb rb.length = plTo ra rb k := by rw [← HN2.out]
      have HE := hid e
      clear e
      go_wp2
      go_ret
      rw [HE.out]
      exact rowRet1_mk hown hB
end Go.Proofs.Ytaaffcffelkcdaa
