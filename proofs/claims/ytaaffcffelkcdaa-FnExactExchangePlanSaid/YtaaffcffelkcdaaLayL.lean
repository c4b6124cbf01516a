/-
  Walks: the plan of exchanges, the function that the program calls.
-/
import Derived.Test.YtaaffcffelkcdaaPlanMath
import Derived.Test.YtaaffcffelkcdaaLayG
import Derived.Maps.AppendAt
namespace Go.Proofs.Ytaaffcffelkcdaa
open Go.RowKit Go.ChangeShapes Go.WideShapes
set_option linter.unusedVariables false
attribute [local go_sem ↓] Go.wp_at_zero Go.wp_at_succ

theorem shape_le {ra rb : List ByteArray} (hb : bothC ra rb = 0) {x : List ByteArray} (h : Shape ra x) : ∀ y ∈ x, y.size ≤ 1000 := by
  intro y hy
  obtain ⟨r, hr, rfl⟩ := List.getElem_of_mem hy
  rw [← rowAt_get hr]
  have hr2 : r < ra.length := by rw [← h.1]; exact hr
  rw [h.2 r hr2]
  have := (both_rows hb).2.2.1 r hr2
  omega
/-- the text of two bytes, from a new row -/
theorem two_text (w : World) (h d : UInt8) : (convert 72 9 (.slice (some ⟨w.heap.size, 0, none⟩) 2 2)).run Try.prog (w.alloc (.cells #[.int .u8 (h.toNat : Int), .int .u8 (d.toNat : Int)] 5)) = .ok (.string (twoT h d)) (w.alloc (.cells #[.int .u8 (h.toNat : Int), .int .u8 (d.toNat : Int)] 5)) := by
  have := run_convert_bytes_back (P := Try.prog) (w.alloc (.cells #[.int .u8 (h.toNat : Int), .int .u8 (d.toNat : Int)] 5)) 72 9 5 ⟨w.heap.size, 0, none⟩ 2 [h, d] Try.underlying72 Try.underlying5 Try.underlying9 (by
    intro j hj
    match j, hj with
    | 0, _ => simp [Addr.add]
    | 1, _ => simp [Addr.add])
  exact this
/-- what is read of a row that does not grow -/
theorem grown_rd {w w' : World} {g k c : Nat} {p : Option Addr} {xs : List Value} (h : w.grownBy w' (Value.slice (some ⟨g, 0, none⟩) k c).ownBlock) (hr : Rd w p xs) (hp : ∀ q, p = some q → q.block ≠ g) : Rd w' p xs := by
  rcases hr with hr | ⟨b, o, rfl, hb, hc⟩
  · exact .inl hr
  · refine .inr ⟨b, o, rfl, Nat.lt_of_lt_of_le hb h.size, fun j hj => ?_⟩
    have hne := hp _ rfl
    rw [World.cell?_of_block (h.block b hb (fun e => hne (by simp [Value.ownBlock] at e; exact e)))]
    exact hc j hj
/-- the two rows at hand: the plan, and the layout that is turned into the other -/
structure AtHand (w wr : World) (n : Nat) (bo : Option Addr) (cap2 : Nat) (v : Value) (st : Pl) : Prop where
  size : w.heap.size + 3 ≤ wr.heap.size
  below : Below w.heap.size w wr
  boxB : wr.cell? ⟨w.heap.size + 1, 0, none⟩ = some (.slice bo n cap2)
  frz : wr.frozen? ⟨w.heap.size, 0, none⟩ = false
  rows : ∃ (p : Option Addr) (c g cp : Nat), v = .slice (some ⟨g, 0, none⟩) st.2.length cp ∧ wr.ownsRow (w.heap.size + 2) 9 1 (.slice (some ⟨g, 0, none⟩) st.2.length cp) st.2.length (strs st.2) ∧
    wr.cell? ⟨w.heap.size, 0, none⟩ = some (.slice p n c) ∧ Rd wr p (strs st.1) ∧ ∀ q, p = some q → q.block ≠ g
theorem one_new2 (w : World) (o : Obj) (x : Value) (t : TypeId) : ∀ j u, [x][j]? = some u → ((w.alloc o).alloc (.cells #[x] t)).cell? ((⟨w.heap.size + 1, 0, none⟩ : Addr).add j) = some u := by
  have h := one_new (w.alloc o) x t
  have e : (w.alloc o).heap.size = w.heap.size + 1 := by simp
  rw [e] at h
  exact h
theorem atHand_drewN {w wr : World} {n : Nat} {bo : Option Addr} {cap2 : Nat} {v : Value} {st : Pl} (h : AtHand w wr n bo cap2 v st) (m : Nat) : AtHand w (wr.drewN m) n bo cap2 v st := by
  obtain ⟨h1, h2, h3, h4, p, c, g, cp, e1, e2, e3, e4, e5⟩ := h
  exact ⟨h1, below_drewN h2 _, h3, h4, p, c, g, cp, e1, owns_drewN e2 _, e3, rd_drewN e4 _, e5⟩

set_option maxRecDepth 100000 in
set_option maxHeartbeats 8000000 in
theorem plan_any (ao : Option Addr) (n cap : Nat) (ra : List ByteArray) (bo : Option Addr) (cap2 : Nat) (rb : List ByteArray) (w : World) (h0 : bothC ra rb = 0)
    (hn : n = ra.length) (hr : Rd w ao (strs ra)) (hr2 : Rd w bo (strs rb)) :
    Calls Try.prog 54 #[.agg #[.slice ao n cap], .agg #[.slice bo n cap2]] w (RowRet1 w.heap.size 9 w (strs (plTo ra rb rb.length).2)) := by
  obtain ⟨i0, hi, iz0, iz1, iz2⟩ := info_parts Try.infoStr
  obtain ⟨e3, e4, _, hrb12⟩ := both_rows h0
  have h1n : 1 ≤ ra.length := (lay_true (both_zero h0).1).1
  have hn4 : n ≤ 4 := by omega
  have HN := hid hn
  have HN2 := hid (show n = rb.length by omega)
  have hsh := hid (fun r (hr : r ≤ ra.length) => shape_to h0 r hr)
  have hshr := hid (fun r (st : Pl) (h : Shape ra st.1) c => shape_row (rb := rb) (r := r) h c)
  have hsz := hid (fun r (hr : r < ra.length) => ((both_zero h0).2.2.2 r hr).1)
  have hle := hid (fun x (h : Shape ra x) => shape_le h0 h)
  have HRB := hid hrb12
  clear hn e3 e4 hrb12
  have hkc := two_text
  go_enter Try.func54, Try.ntmps54
  go_wp2_with fail
  obtain ⟨w1, hw1⟩ : ∃ w1, w1 = ((w.alloc (.cells #[.slice ao n cap] 28)).alloc (.cells #[.slice bo n cap2] 28)).alloc (.cells #[] 9) := ⟨_, rfl⟩
  have hA0 : AtHand w w1 n bo cap2 (.slice (some ⟨w.heap.size + 1 + 1, 0, none⟩) 0 0) (plTo ra rb 0) := by
    have hb1 : Below w.heap.size w w1 := by
      rw [hw1]
      (repeat (first | with_reducible exact Below.refl _ _ | with_reducible assumption | refine Below.drew ?_ | refine below_drewN ?_ _ | (refine Below.alloc ?_ (by first | omega | (simp; done) | (simp; omega)) _) | (refine Below.setCell ?_ (by first | omega | (simp; done) | (simp; omega)) _) | (refine Below.trans ?_ (Below.mono (by assumption) (by first | omega | (simp; done) | (simp; omega))))))
    refine ⟨by rw [hw1]; simp, hb1, ?_, ?_, ao, cap, w.heap.size + 1 + 1, 0, rfl, ?_, ?_, rd_below hr hb1, ?_⟩
    · rw [hw1]; exact (World.cell?_alloc_past _ _ _ (by simp)).trans ((World.cell?_alloc_at _ _ _ _ (by simp)).trans rfl)
    · rw [hw1]; exact (World.frozen?_alloc_past _ _ _ (by simp <;> omega)).trans ((World.frozen?_alloc_past _ _ _ (by simp)).trans (World.frozen?_alloc_at _ _ _ _ rfl))
    · rw [hw1]
      have := owns_lit0 (w.alloc (.cells #[.slice ao n cap] 28)) (.cells #[.slice bo n cap2] 28) 9 (w.heap.size + 2) (by simp)
      simpa [plTo, strs] using this
    · rw [hw1]; exact (World.cell?_alloc_past _ _ _ (by simp <;> omega)).trans ((World.cell?_alloc_past _ _ _ (by simp)).trans ((World.cell?_alloc_at _ _ _ _ rfl).trans rfl))
    · intro q hq
      rcases hr with hr | ⟨b, o, rfl, hb, _⟩
      · have := congrArg List.length hr; simp [strs] at this; rw [this] at h1n; simp at h1n
      · cases hq; simp; omega
  rw [← hw1]
  clear hw1 hr
  have hrd2 := rd_str hr2
  clear hr2
  go_loopw [5, 6, 7, 8, 9, 14] (fun v _ _ _ _ i wr => ∃ k : Nat, k ≤ n ∧ i = .int .i64 k ∧ AtHand w wr n bo cap2 v (plTo ra rb k)) (fun _ _ _ _ _ i _ => n - (intOf i).toNat)
  case atStart => exact ⟨0, Nat.zero_le _, rfl, hA0⟩
  case round =>
    clear hA0
    obtain ⟨k, hk, rfl, hA⟩ := hrel
    by_cases hlt : k < n
    · rcases hrd2 with hnil | ⟨g2, o2, rfl, hbl2, hcell2⟩
      · exact absurd (by rw [HN2.out, hnil]; rfl : n = 0) (by omega)
      have hkb : k < rb.length := by rw [← HN2.out]; exact hlt
      have hka : k < ra.length := by rw [← HN.out]; exact hlt
      have GB := hid (rows_cell hcell2 hkb)
      have hy12 := HRB.out k hkb
      have hst := hsh.out k (by omega)
      have hnext : plTo ra rb (k + 1) = plRow rb k (plTo ra rb k) (rowAt rb k).size := rfl
      have HNX := hid hnext
      have hzero : plRow rb k (plTo ra rb k) 0 = plTo ra rb k := rfl
      have hsame := hid (fun st c h1 h2 h => pl_same (rb := rb) (r := k) (c := c) (st := st) h1 h2 h)
      have hdiff := hid (fun st c h1 h2 h => pl_diff (rb := rb) (r := k) (c := c) (st := st) h1 h2 h)
      have hxy := hsz.out k hka
      clear hnext
      have qb := hA.boxB
      have hz := hA.size
      have hB := hA.below
      have g2c := (hB.cell (p := ⟨g2, o2 + k, none⟩) hbl2).trans GB.out
      have hk0 : (0 : Int) ≤ (k : Int) := by omega
      have hkn : (k : Int) < (n : Int) := by omega
      obtain ⟨y, hy⟩ : ∃ y, y = rowAt rb k := ⟨_, rfl⟩
      rw [← hy] at g2c hy12 hxy GB HNX
      have HY := hid hy
      clear hy hcell2
      rw [← hzero] at hA
      obtain ⟨p, c0, g, cp, rfl, _⟩ := id hA.rows
      go_wp2_with fail
      clear qb hz hB g2c
      go_loopw [5, 7, 8, 9, 23] (fun v _ _ _ i wr2 => ∃ c : Nat, c ≤ y.size ∧ i = .int .i64 c ∧ AtHand w wr2 n (some ⟨g2, o2, none⟩) cap2 v (plRow rb k (plTo ra rb k) c)) (fun _ _ _ _ i _ => y.size - (intOf i).toNat)
      case atStart => exact ⟨0, Nat.zero_le _, rfl, hA⟩
      case round =>
        clear hA
        obtain ⟨c, hc, rfl, hA⟩ := hrel
        by_cases hcl : c < y.size
        · have hsc := hshr.out k _ hst.1 c
          have hstep : plRow rb k (plTo ra rb k) (c + 1) = plStep rb k (plRow rb k (plTo ra rb k) c) c := rfl
          have HST := hid hstep
          clear hstep
          obtain ⟨st, hstv⟩ : ∃ st, st = plRow rb k (plTo ra rb k) c := ⟨_, rfl⟩
          rw [← hstv] at hA hsc HST
          clear hstv
          obtain ⟨hshape, hlen⟩ := hsc
          have hl60 : st.2.length ≤ 100 := by have := hst.2; omega
          have HSH := hid hshape
          have HA := hid hA
          obtain ⟨hz, hB, qb, f0, p2, c2, g3, cp3, rfl, hown, qa, hrx, hpg⟩ := hA
          rcases rd_str hrx with hnil | ⟨gx, ox, rfl, hblx, hcellx⟩
          · exfalso; have := hshape.1; rw [hnil] at this; simp at this; omega
          have hkx : k < st.1.length := by rw [hshape.1]; exact hka
          have gx1 := rows_cell hcellx hkx
          have g2c := (hB.cell (p := ⟨g2, o2 + k, none⟩) hbl2).trans GB.out
          have hxs : (rowAt st.1 k).size = y.size := (hshape.2 k hka).trans hxy
          have hsm := hid (fun h1 h2 h => (HST.out.trans (hsame.out st c h1 h2 h)))
          have hdf := hid (fun h1 h2 h => (HST.out.trans (hdiff.out st c h1 h2 h)))
          rw [← HY.out] at hsm hdf
          have hlx := hid (hle.out _ hshape)
          have hnx := hid (show n = st.1.length by rw [hshape.1]; exact HN.out)
          obtain ⟨x, hx⟩ : ∃ x, x = rowAt st.1 k := ⟨_, rfl⟩
          rw [← hx] at gx1 hxs hsm hdf
          clear hx hcellx hshape hkx
          have hc0 : (0 : Int) ≤ (c : Int) := by omega
          have hcn : (c : Int) < (y.size : Int) := by omega
          have hcx : c < x.size := by omega
          have hcxi : (c : Int) < (x.size : Int) := by omega
          by_cases heq : (x[c].toNat : Int) = (y[c].toNat : Int)
          · have hs := hid (hsm.out hcx hcl heq)
            have e1 := neI_false heq
            clear heq
            go_wp2_with fail
            go_quiet (fail)
            go_wp2
            go_roundw
            case rel => exact ⟨c + 1, by omega, by go_num, by rw [hs.out]; exact atHand_drewN HA.out _⟩
            case measure => simp [intOf]; omega
          · have hd := hid (hdf.out hcx hcl heq)
            have e1 := neI_true heq
            clear heq
            go_wp2_with fail
            go_quiet (fail)
            obtain ⟨w4, hw4⟩ : ∃ w4, w4 = wr.drewN nq := ⟨_, rfl⟩
            have hown4 : w4.ownsRow (w.heap.size + 2) 9 1 (.slice (some ⟨g3, 0, none⟩) st.2.length cp3) st.2.length (strs st.2) := by rw [hw4]; exact owns_drewN hown _
            have hB4 : Below w.heap.size w w4 := by rw [hw4]; exact below_drewN hB _
            have hrx4 : Rd w4 (some ⟨gx, ox, none⟩) (strs st.1) := by rw [hw4]; exact rd_drewN hrx _
            have qa4 : w4.cell? ⟨w.heap.size, 0, none⟩ = some (.slice (some ⟨gx, ox, none⟩) n c2) := by rw [hw4]; exact qa
            have qb4 : w4.cell? ⟨w.heap.size + 1, 0, none⟩ = some (.slice (some ⟨g2, o2, none⟩) n cap2) := by rw [hw4]; exact qb
            have f04 : w4.frozen? ⟨w.heap.size, 0, none⟩ = false := by rw [hw4]; exact f0
            have hz4 : w.heap.size + 3 ≤ w4.heap.size := by rw [hw4]; exact hz
            rw [← hw4]
            clear hw4 hown hB hrx qa qb f0 hz gx1 g2c
            go_wp2_with (first | (at_builtin; refine wpList_append_own_at _ rfl _ _ 22 rfl (w.heap.size + 2) 9 i0 (.string ByteArray.empty) 1 16 Try.underlying22 hi iz0 iz1 iz2 rfl (by decide) (.slice (some ⟨g3, 0, none⟩) st.2.length cp3) _ _ rfl ((hown4.alloc _).alloc _) ⟨_, 0, none⟩ 1 1 [.string (twoT x[c] y[c])] rfl rfl (one_new2 _ _ _ _) (one_okS _) (by unfold maxLen; omega) (by omega) (by simp; omega) ?_; intro v' w5 hown5 hgrow5 hnil5 hat5; rcases owns_form hown5 with ⟨_, h00, _⟩ | ⟨g5, cp5, rfl, hg5a, hg5b, _⟩; (exfalso; omega); have hb45 : Below (w.heap.size + 2) w4 w5 := below_grown (((Below.refl (w.heap.size + 2) w4).alloc (by omega) _).alloc (by simp; omega) _) (by simp; omega) ((hown4.alloc _).alloc _) hgrow5; have hrx5 := grown_rd hgrow5 (rd_below hrx4 (((Below.refl w4.heap.size w4).alloc (Nat.le_refl _) _).alloc (by simp) _)) hpg; have qa5 := (hb45.cell (p := ⟨w.heap.size, 0, none⟩) (by simp)).trans qa4; have f05 := (hb45.frozen (p := ⟨w.heap.size, 0, none⟩) (by simp)).trans f04; have qb5 := (hb45.cell (p := ⟨w.heap.size + 1, 0, none⟩) (by simp)).trans qb4; have hz5 := hb45.size; have hB5 := hB4.trans (hb45.mono (by omega))) | (go_at_call 52; refine (exch_any (some ⟨gx, ox, none⟩) n c2 st.1 x[c] y[c] _ hnx.out hrx5 hlx.out (by omega)).mono ?_; rintro e w6 ⟨bo6, c6, rfl, hown6, hb6⟩; have qa6 := (hb6.cell (p := ⟨w.heap.size, 0, none⟩) (show w.heap.size < w5.heap.size by omega)).trans qa5; have f06 := (hb6.frozen (p := ⟨w.heap.size, 0, none⟩) (show w.heap.size < w5.heap.size by omega)).trans f05; have qb6 := (hb6.cell (p := ⟨w.heap.size + 1, 0, none⟩) (show w.heap.size + 1 < w5.heap.size by omega)).trans qb5; have hz6 := hb6.size))
            go_roundw
            case rel =>
              refine ⟨c + 1, by omega, by go_num, ?_⟩
              rw [hd.out]
              rw [strs_snoc2] at hown5
              have hown56 := owns_below hown5 hb6
              refine ⟨by simp; omega, (hB5.trans (hb6.mono hB5.size)).setCell (by simp) _, ?_, ?_, bo6, c6, g5, cp5, by simp, ?_, World.cell?_setCell_same _ _ _ qa6, ?_, ?_⟩
              · rw [World.cell?_setCell_other _ _ _ _ (by simp)]; exact qb6
              · rw [World.frozen?_setCell]; exact f06
              · have := ownsRow_setCell_below hown56 (a := ⟨w.heap.size, 0, none⟩) (by simp) (.slice bo6 n c6)
                simpa using this
              · exact owns_rdN (ownsRow_setCell_below hown6 (a := ⟨w.heap.size, 0, none⟩) (by simp; omega) (.slice bo6 n c6))
              · intro q hq
                rcases owns_form hown6 with ⟨h1, _⟩ | ⟨g6, _, h1, hg6, _⟩
                · simp at h1; rw [h1.1] at hq; cases hq
                · simp at h1; rw [h1.1] at hq; cases hq; simp; omega
            case measure => simp [intOf]; omega
        · obtain rfl : c = y.size := by omega
          go_wp2
          go_roundw
          case rel => exact ⟨k + 1, by omega, by go_num, by rw [HNX.out]; exact hA⟩
          case measure => simp [intOf]; omega
    · obtain rfl : k = n := by omega
      obtain ⟨p, c, g, cp, rfl, hown, _⟩ := hA.rows
      have e : plTo ra rb rb.length = plTo ra rb k := by rw [← HN2.out]
      have HE := hid e
      clear e
      have hB := hA.below
      go_wp2
      go_ret
      rw [HE.out]
      exact rowRet1_mk (owns_mono hown (by omega)) hB
end Go.Proofs.Ytaaffcffelkcdaa
