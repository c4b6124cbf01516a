/-
  The walk of the reference's rests: put one by one until nothing changes.
-/
import Derived.Test.YtnjdoedhhpkjhaaSpA
import Derived.Test.YtnjdoedhhpkjhaaOver
namespace Go.Proofs.Ytnjdoedhhpkjhaa
open Go.RowKit Go.ChangeShapes Go.WideShapes Go.Maps
set_option linter.unusedVariables false
attribute [local go_sem ↓] Go.wp_at_zero Go.wp_at_succ

theorem RsAt.below {B p : Nat} {S : List Am} {b : Bool} {w w' : World} (h : RsAt B p S b w) (hb : Below w.heap.size w w') : RsAt B p S b w' := by
  obtain ⟨ra, rc, ta, tc, H⟩ := h
  exact ⟨ra, rc, ta, tc, H.below hb⟩
theorem RsAt.flag {B p : Nat} {S : List Am} {b : Bool} (c : Bool) {w : World} (h : RsAt B p S b w) : RsAt B p S c (w.setCell ⟨p, 2, none⟩ (.bool c)) := by
  obtain ⟨ra, rc, ta, tc, H⟩ := h
  exact ⟨ra, rc, ta, tc, H.flag c⟩
theorem rsAt_new (w : World) (t : TypeId) : RsAt w.heap.size w.heap.size [] false (w.alloc (.cells #[.slice none 0 0, .slice none 0 0, .bool false] t)) :=
  ⟨none, 0, none, 0, by simp, by simp, by simp, by simp, by simp, Nat.le_refl _, World.ownsRow_nil _ _ _ _, World.ownsRow_nil _ _ _ _, by simp [Value.ownBlock], by simp [Value.ownBlock], .inl rfl⟩
/-- what the reference has found, as it lies at p -/
def SpSt (l : List ByteArray) (w : World) (p : Nat) (S : List Am) (b : Bool) (wr : World) : Prop := RsAt w.heap.size p S b wr ∧ SInv l S ∧ Below w.heap.size w wr
theorem SpSt.below {l : List ByteArray} {w : World} {p : Nat} {S : List Am} {b : Bool} {wr w' : World} (h : SpSt l w p S b wr) (hb : Below wr.heap.size wr w') : SpSt l w p S b w' := ⟨h.1.below hb, h.2.1, h.2.2.trans (hb.mono h.2.2.size)⟩
theorem SpSt.flag {l : List ByteArray} {w : World} {p : Nat} {S : List Am} {b : Bool} {wr : World} (c : Bool) (h : SpSt l w p S b wr) : SpSt l w p S c (wr.setCell ⟨p, 2, none⟩ (.bool c)) := by
  refine ⟨h.1.flag c, h.2.1, ?_⟩
  obtain ⟨ra, rc, ta, tc, H⟩ := h.1
  exact Below.setCell h.2.2 H.bp _
theorem SpSt.put {l : List ByteArray} {w : World} {p : Nat} {S S' : List Am} {b b' c : Bool} {y : Am} {wr w' : World} (h : SpSt l w p S b wr) (hp : PutTo S y S' c) (hy : Got l y) (hs : y.1.size ≤ 8 * (S.length + 1)) (hr : RsAt w.heap.size p S' b' w') (hb : Below w.heap.size wr w') : SpSt l w p S' b' w' :=
  ⟨hr, put_inv h.2.1 hp hy hs, h.2.2.trans hb⟩
/-- the reference's rests, in new memory -/
def RestsRet (l : List ByteArray) (w : World) (e : Ending) (w' : World) : Prop :=
  ∃ p S, e = .returned (.pointer (some ⟨p, 0, none⟩)) ∧ Good l S ∧ RsAt w.heap.size p S false w' ∧ Below w.heap.size w w'
theorem two_keep {W0 W : World} {b o1 o2 : Nat} {x y : ByteArray} {B : Nat} (hb : Below B W0 W) (hl : b < B) (h1 : W0.cell? ⟨b, o1, none⟩ = some (.string x)) (h2 : W0.cell? ⟨b, o2, none⟩ = some (.string y)) : W.cell? ⟨b, o1, none⟩ = some (.string x) ∧ W.cell? ⟨b, o2, none⟩ = some (.string y) :=
  ⟨(hb.cell (p := ⟨b, o1, none⟩) hl).trans h1, (hb.cell (p := ⟨b, o2, none⟩) hl).trans h2⟩

def S2 (l : List ByteArray) (w : World) (p G : Nat) (m : Nat) (wr : World) : Prop :=
  ∃ S b, SpSt l w p S b wr ∧ BaseC l S ∧ (b = false → ClosTo l S S.length) ∧ m = 2 * MM G S + (if b = true then 1 else 0)
/-- within a round: nothing has changed and so much is closed, or something has become better -/
def Round (l : List ByteArray) (G : Nat) (S S' : List Am) (b : Bool) (C : Prop) : Prop := (b = false → S' = S ∧ C) ∧ (b = true → MM G S' < MM G S)
theorem round_put {l : List ByteArray} {G : Nat} {S S' S'' : List Am} {b c : Bool} {k q : Nat} {y : Am} (h : Round l G S S' b (ClosTo l S k ∧ ClosK l S k q)) (hp : PutTo S' y S'' c) (hk : k < S'.length) (hq : q < l.length) (hn : nxt S'[k] l[q] = some y) (hG : rk y.1 < G) (h90 : S''.length ≤ 90) : Round l G S S'' (b || c) (ClosTo l S k ∧ ClosK l S k (q + 1)) := by
  obtain ⟨hf, ht⟩ := h
  cases b with
  | false =>
    obtain ⟨rfl, h1, h2⟩ := hf rfl
    cases c with
    | false =>
      have e := put_same hp
      subst e
      refine ⟨fun _ => ⟨rfl, h1, closK_next h2 hq hk fun z hz => ?_⟩, fun h => by cases h⟩
      rw [hn] at hz
      simp only [Option.some.injEq] at hz
      subst hz
      exact put_cov hp
    | true => exact ⟨fun h => by (cases h), fun _ => put_less hp hG h90⟩
  | true =>
    have h1 := ht rfl
    refine ⟨fun h => by (cases h), fun _ => ?_⟩
    cases c with
    | false => rw [put_same hp]; exact h1
    | true => exact Nat.lt_trans (put_less hp hG h90) h1
theorem round_skip {l : List ByteArray} {G : Nat} {S S' : List Am} {b : Bool} {k q : Nat} (h : Round l G S S' b (ClosTo l S k ∧ ClosK l S k q)) (hk : k < S'.length) (hq : q < l.length) (hn : nxt S'[k] l[q] = none) : Round l G S S' b (ClosTo l S k ∧ ClosK l S k (q + 1)) := by
  obtain ⟨hf, ht⟩ := h
  refine ⟨fun hb => ?_, ht⟩
  obtain ⟨rfl, h1, h2⟩ := hf hb
  refine ⟨rfl, h1, closK_next h2 hq hk fun z hz => ?_⟩
  rw [hn] at hz; cases hz
theorem round_end {l : List ByteArray} {G : Nat} {S S' : List Am} {b : Bool} {k : Nat} (h : Round l G S S' b (ClosTo l S k ∧ ClosK l S k l.length)) : Round l G S S' b (ClosTo l S (k + 1)) := by
  obtain ⟨hf, ht⟩ := h
  refine ⟨fun hb => ?_, ht⟩
  obtain ⟨rfl, h1, h2⟩ := hf hb
  exact ⟨rfl, closTo_next h1 (closK_all h2)⟩
theorem round_empty {l : List ByteArray} {G : Nat} {S S' : List Am} {b : Bool} {k : Nat} (h : Round l G S S' b (ClosTo l S k)) (hk : k < S'.length) (h0 : S'[k].2.size = 0) : Round l G S S' b (ClosTo l S (k + 1)) := by
  obtain ⟨hf, ht⟩ := h
  refine ⟨fun hb => ?_, ht⟩
  obtain ⟨rfl, h1⟩ := hf hb
  exact ⟨rfl, closTo_next h1 (closAt_empty hk h0)⟩
theorem round_begin {l : List ByteArray} {G : Nat} {S S' : List Am} {b : Bool} {k : Nat} (h : Round l G S S' b (ClosTo l S k)) : Round l G S S' b (ClosTo l S k ∧ ClosK l S k 0) :=
  ⟨fun hb => ⟨(h.1 hb).1, (h.1 hb).2, closK_zero _ _ _⟩, h.2⟩
theorem RsAt.parts {B p : Nat} {S : List Am} {b : Bool} {w : World} (h : RsAt B p S b w) : ∃ ra rc ta tc, w.cell? ⟨p, 0, none⟩ = some (.slice ra S.length rc) ∧ w.cell? ⟨p, 1, none⟩ = some (.slice ta S.length tc) ∧ w.cell? ⟨p, 2, none⟩ = some (.bool b) ∧ (∀ i, w.frozen? ⟨p, i, none⟩ = false) ∧
    (S.length = 0 ∨ ∃ gr gt, ra = some ⟨gr, 0, none⟩ ∧ ta = some ⟨gt, 0, none⟩ ∧ ∀ k (hk : k < S.length), w.cell? ⟨gr, k, none⟩ = some (.string S[k].2) ∧ w.cell? ⟨gt, k, none⟩ = some (.string S[k].1)) := by
  obtain ⟨ra, rc, ta, tc, H⟩ := h
  refine ⟨ra, rc, ta, tc, H.c0, H.c1, H.c2, H.fr, ?_⟩
  rcases owns_form H.rrow with ⟨_, h0, _⟩ | ⟨gr, c, hv, _⟩
  · exact .inl h0
  rcases owns_form H.trow with ⟨_, h0, _⟩ | ⟨gt, c', hv', _⟩
  · exact .inl h0
  simp only [Value.slice.injEq] at hv hv'
  obtain ⟨rfl, _, rfl⟩ := hv
  obtain ⟨rfl, _, rfl⟩ := hv'
  refine .inr ⟨gr, gt, rfl, rfl, fun k hk => ⟨?_, ?_⟩⟩
  · rw [H.rrow.cellAt k (by omega)]
    simp [strs, keysL, hk]
  · rw [H.trow.cellAt k (by omega)]
    simp [strs, textsL, hk]

set_option maxRecDepth 100000 in
set_option maxHeartbeats 8000000 in
theorem sRests_any (ao : Option Addr) (n cap : Nat) (l : List ByteArray) (w : World) (hn : n = l.length) (hr : Rd w ao (strs l)) (h8 : ∀ x ∈ l, x.size ≤ 8) (hm : n ≤ 10) :
    Calls Try.prog 42 #[.slice ao n cap] w (RestsRet l w) := by
  have HN := hid hn
  have H8 := hid h8
  have H10 := hid (show l.length ≤ 10 by rw [← hn]; exact hm)
  have hrd := rd_str hr
  clear hn hr
  go_enter Try.func42, Try.ntmps42
  go_wp2_with fail
  have hst0 : SpSt l w w.heap.size [] false (w.alloc (.cells #[.slice none 0 0, .slice none 0 0, .bool false] 67)) := ⟨rsAt_new _ _, sinv_nil l, (Below.refl _ _).alloc (Nat.le_refl _) _⟩
  obtain ⟨p, hp⟩ : ∃ p, p = w.heap.size := ⟨_, rfl⟩
  rw [← hp] at hst0 ⊢
  have HP := hid hp
  clear hp
  rw [HP.out] at hst0
  go_loopw [4] (fun i wr => ∃ (k : Nat) (S : List Am) (b : Bool), k ≤ n ∧ i = .int .i64 k ∧ SpSt l w p S b wr ∧ StTo l S k 0 ∧ (b = false → S = [])) (fun i _ => n - (intOf i).toNat)
  case atStart => exact ⟨0, [], false, Nat.zero_le _, rfl, by rw [HP.out]; exact hst0, st_zero _ _, fun _ => rfl⟩
  case round =>
    clear hst0
    obtain ⟨k, S, mb, hk, rfl, hst, hSt, hmb⟩ := hrel
    by_cases hlt : k < n
    · rcases hrd with hnil | ⟨b, o, rfl, hbl, hcell⟩
      · exact absurd (by rw [HN.out, hnil]; rfl : n = 0) (by omega)
      have hkl : k < l.length := by rw [← HN.out]; exact hlt
      have hs1 := H8.out _ (List.getElem_mem hkl)
      have hk0 : (0 : Int) ≤ (k : Int) := by omega
      have hkn : (k : Int) < (n : Int) := by omega
      have HCELL := hid hcell
      obtain ⟨x, hx⟩ : ∃ x, x = l[k] := ⟨_, rfl⟩
      rw [← hx] at hs1
      have hs1' : x.size ≤ maxLen := by unfold maxLen; omega
      have Hx := hid hx
      clear hx hcell
      go_wp2_with fail
      go_loopw [5] (fun i wr2 => ∃ (j : Nat) (S : List Am) (b : Bool), j ≤ n ∧ i = .int .i64 j ∧ SpSt l w p S b wr2 ∧ StTo l S k j ∧ (b = false → S = [])) (fun i _ => n - (intOf i).toNat)
      case atStart => exact ⟨0, S, mb, Nat.zero_le _, rfl, hst, hSt, hmb⟩
      case round =>
        clear hst hSt hmb
        obtain ⟨j, S, mb, hj, rfl, hst, hSt, hmb⟩ := hrel
        have hB := hst.2.2
        by_cases hjn : j < n
        · have hjl : j < l.length := by rw [← HN.out]; exact hjn
          have g1 := (cell_here hB hbl HCELL.out k hkl).trans (by rw [← Hx.out])
          have g2 := cell_here hB hbl HCELL.out j hjl
          have hs2 := H8.out _ (List.getElem_mem hjl)
          have hbw := Nat.lt_of_lt_of_le hbl hB.size
          have hj0 : (0 : Int) ≤ (j : Int) := by omega
          have hjn1 : (j : Int) < (n : Int) := by omega
          have hsk := hid (fun h => st_skip hkl hjl hSt h)
          have hpu := hid (fun (S' : List Am) (c : Bool) h => st_put (S' := S') (c := c) hkl hjl hSt h)
          have hrm := hid (fun h1 h2 => rests_mem (l := l) hjl hkl h1 h2)
          obtain ⟨y, hy⟩ : ∃ y, y = l[j] := ⟨_, rfl⟩
          rw [← hy] at g2 hs2
          simp only [← hy, ← Hx.out] at hsk hpu hrm
          have hs2' : y.size ≤ maxLen := by unfold maxLen; omega
          clear hy
          by_cases hkj : k = j
          · have hh := hid (hsk.out (.inl hkj))
            have hc : ((k : Int) != (j : Int)) = false := by simp; omega
            clear hkj
            go_wp2_with fail
            refine wp_region_over (by kernel_rfl) (by kernel_rfl) (fun hov => ?_)
            repeat (go_big_quiet_step ((fail)))
            refine wpQuiet_nil ?_
            intro w5 hb5
            clear hov
            go_wp2
            go_roundw
            case rel => exact ⟨j + 1, S, mb, by omega, by go_num, hst.below hb5, hh.out, hmb⟩
            case measure => simp [intOf]; omega
          · have hc : ((k : Int) != (j : Int)) = true := by simp; omega
            have hkj' := hid (fun e : j = k => hkj e.symm)
            cases hp : preB x y
            · have hh := hid (hsk.out (.inr hp))
              clear hkj
              go_wp2_with fail
              refine wp_region_over (by kernel_rfl) (by kernel_rfl) (fun hov => ?_)
              repeat (go_big_quiet_step (((go_at_call 66; with_reducible exact overSame (begins_b _ _ _ hs1' hs2' hp)))))
              refine wpQuiet_nil ?_
              intro w5 hb5
              clear hov
              go_wp2
              go_roundw
              case rel => exact ⟨j + 1, S, mb, by omega, by go_num, hst.below hb5, hh.out, hmb⟩
              case measure => simp [intOf]; omega
            · have hgot := hid (Got.start (hrm.out hkj'.out hp))
              have hyx := preB_sz hp
              have hyxi : (y.size : Int) ≤ (x.size : Int) := by omega
              have h90 := keys_90 H10.out H8.out hst.2.1.sound hst.2.1.keys
              have hsml := hid (fun z hz => hst.2.1.small z hz)
              clear hkj
              go_wp2_with fail
              refine wp_region_over (by kernel_rfl) (by kernel_rfl) (fun hov => ?_)
              repeat (go_big_quiet_step (((go_at_call 66; with_reducible exact overSame (begins_b _ _ _ hs1' hs2' hp)))))
              refine wpQuiet_nil ?_
              intro w5 hb5
              clear hov
              go_wp2_with fail
              have hst5 := hst.below hb5
              have hb5' : Below w.heap.size wr w5.drew := (hb5.mono hB.size).drew
              have hk5 := two_keep hb5' hbl g1 g2
              have hst5d : SpSt l w p S mb w5.drew := hst5.below (Below.refl _ _).drew
              go_region_held3 (fun W => W.cell? ⟨b, o + k, none⟩ = some (.string x) ∧ W.cell? ⟨b, o + j, none⟩ = some (.string y)) (first | exact hk5 | exact two_keep hb6 hbl hk5.1 hk5.2) (first | (go_at_call 67; refine (put_any w.heap.size p S mb (x.extract y.size x.size) x _ hst5d.1 (hst5d.2.2.size) (by omega) (by simp only [ByteArray.size_extract]; unfold maxLen; omega) hs1' (fun z hz => by have := hsml.out z hz; unfold maxLen; omega)).mono ?_; rintro e w6 ⟨S', c, hput, rfl, hrs6, hb6⟩))
              have hst6 := hst5d.put hput hgot.out (by simp only; omega) hrs6 hb6
              have hSt6 := hid (hpu.out S' c hput)
              have hmb6 : (mb || c) = false → S' = [] := by
                intro h
                have h1 : mb = false := by cases mb <;> simp_all
                have h2 : c = false := by cases c <;> simp_all
                subst h2
                rw [put_same hput]; exact hmb h1
              go_wp2_with fail
              go_roundw
              case rel => exact ⟨j + 1, S', mb || c, by omega, by go_num, hst6, hSt6.out, hmb6⟩
              case measure => simp [intOf]; omega
        · have hjn' : j = n := by omega
          subst hjn'
          have hh := hid (st_line (l := l) (S := S) (i := k) (by rw [← HN.out]; exact hSt))
          go_wp2
          go_roundw
          case rel => exact ⟨k + 1, S, mb, by omega, by go_num, hst, hh.out, hmb⟩
          case measure => simp [intOf]; omega
    · obtain rfl : n = k := by omega
      have hbase := hid (st_base (l := l) (S := S) (by rw [← HN.out]; exact hSt))
      clear hSt
      have hG : ∀ t : ByteArray, t.size ≤ 800 → rk t < rep 801 := fun t h => rk_lt h
      obtain ⟨G, hGe⟩ : ∃ G, G = rep 801 := ⟨_, rfl⟩
      rw [← hGe] at hG
      have HG := hid hG
      clear hGe hG
      obtain ⟨μ, hμ⟩ := least_fun (S2 l w p G)
      have HMU := hid hμ
      clear hμ
      go_wp2_with fail
      go_loopw [] (fun wr => ∃ m, S2 l w p G m wr) (fun wr => μ wr)
      case atStart => exact ⟨_, S, mb, hst, hbase.out, fun h => by rw [hmb h]; exact closTo_zero _ _, rfl⟩
      case round =>
        clear hst hbase hmb
        obtain ⟨⟨S, mb, hst, hbase, hcl, hmu⟩, hleast⟩ := HMU.out _ hrel
        have HLE := hid hleast
        have HMM := hid hmu
        clear hrel hleast hmu
        obtain ⟨ra, rc, ta, tc, q0, q1, q2, qf, _⟩ := hst.1.parts
        have qf2 := qf 2
        have QF := hid qf
        clear qf
        cases mb with
        | false =>
          have hgd := hid (good_of hst.2.1 hbase (hcl rfl))
          go_wp2_with fail
          go_ret
          exact ⟨p, S, rfl, hgd.out, hst.1, hst.2.2⟩
        | true =>
          have hst1 := hst.flag false
          have HB := hid hbase
          clear hcl hbase
          have HM2 := hid (show μ wr = 2 * MM G S + 1 from HMM.out)
          clear HMM
          obtain ⟨wo, hwo⟩ : ∃ wo, wo = wr := ⟨_, rfl⟩
          rw [← hwo] at hst1 HLE HM2 q0 q1 q2 qf2 ⊢
          clear hwo hst QF
          go_wp2_with fail
          go_loopw [6] (fun i wr2 => ∃ (j : Nat) (S' : List Am) (b : Bool), i = .int .i64 j ∧ j ≤ S'.length ∧ SpSt l w p S' b wr2 ∧ BaseC l S' ∧ Round l G S S' b (ClosTo l S j)) (fun i _ => 90 - (intOf i).toNat)
          case atStart => exact ⟨0, S, false, rfl, Nat.zero_le _, hst1, HB.out, fun _ => ⟨rfl, closTo_zero _ _⟩, fun h => by cases h⟩
          case round =>
            clear hst1 q0 q1 q2 qf2
            obtain ⟨j, S1, mb, rfl, hj, hst, hbase, hrd2⟩ := hrel
            have h90 := keys_90 H10.out H8.out hst.2.1.sound hst.2.1.keys
            obtain ⟨ra1, rc1, ta1, tc1, q0, q1, q2, qf, hrows⟩ := hst.1.parts
            clear qf
            have hj0 : (0 : Int) ≤ (j : Int) := by omega
            by_cases hjn : j < S1.length
            · obtain ⟨gr, gt, rfl, rfl, hcellS⟩ := hrows.resolve_left (by omega)
              obtain ⟨d0, d1⟩ := hcellS j hjn
              have hjl : (j : Int) < (S1.length : Int) := by omega
              have hr8 := got_size H8.out (hst.2.1.sound _ (List.getElem_mem hjn))
              obtain ⟨r, hre⟩ : ∃ r, r = S1[j].2 := ⟨_, rfl⟩
              rw [← hre] at d0 hr8
              have HR := hid hre
              have hr8' : r.size ≤ maxLen := by unfold maxLen; omega
              clear hre hcellS d1
              have HRD2 := hid hrd2
              clear hrd2
              go_wp2_with fail
              obtain ⟨wi, hwi⟩ : ∃ wi, wi = wr := ⟨_, rfl⟩
              rw [← hwi] at hst q0 q1 q2 d0 ⊢
              clear hwi
              rcases emptyT_cases r with ⟨hz', he⟩ | ⟨hz', he⟩
              · have hgo := hid (round_empty HRD2.out hjn (by rw [← HR.out]; exact hz'))
                have he2 : (r.toList != []) = false := by rw [bne, he]; rfl
                clear hz'
                by_cases hn0 : (0 : Int) < (n : Int)
                all_goals
                  refine wp_loop_rounds 1 ?_
                  rw [rounds_succ]
                  go_wp2_with fail
                  go_roundw
                  case rel => exact ⟨j + 1, S1, mb, by go_num, by omega, hst, hbase, hgo.out⟩
                  case measure => simp [intOf]; omega
              · have he2 : (r.toList != []) = true := by rw [bne, he]; rfl
                have HZ := hid hz'
                clear hz'
                go_loopw [8] (fun i wr3 => ∃ (q : Nat) (S' : List Am) (b : Bool), i = .int .i64 q ∧ q ≤ n ∧ SpSt l w p S' b wr3 ∧ BaseC l S' ∧ (∃ h : j < S'.length, S'[j].2 = r) ∧ Round l G S S' b (ClosTo l S j ∧ ClosK l S j q)) (fun i _ => n - (intOf i).toNat)
                case atStart => exact ⟨0, S1, mb, rfl, Nat.zero_le _, hst, hbase, ⟨hjn, HR.out.symm⟩, round_begin HRD2.out⟩
                case round =>
                  clear hst hbase q0 q1 q2 d0 h90
                  obtain ⟨q, S2, mb, rfl, hq, hst, hbase, ⟨hjS, hjr⟩, hrd3⟩ := hrel
                  have h90 := keys_90 H10.out H8.out hst.2.1.sound hst.2.1.keys
                  have hq0 : (0 : Int) ≤ (q : Int) := by omega
                  by_cases hqn : q < n
                  · have hqn1 : (q : Int) < (n : Int) := by omega
                    rcases hrd with hnil | ⟨b, o, rfl, hbl, hcell⟩
                    · exact absurd (by rw [HN.out, hnil]; rfl : n = 0) (by omega)
                    have hql : q < l.length := by rw [← HN.out]; exact hqn
                    have g1 := cell_here hst.2.2 hbl hcell q hql
                    have hs2 := H8.out _ (List.getElem_mem hql)
                    obtain ⟨ra2, rc2, ta2, tc2, q0, q1, q2, qf, hrows⟩ := hst.1.parts
                    obtain ⟨gr2, gt2, rfl, rfl, hcellS⟩ := hrows.resolve_left (by omega)
                    have d1 := (hcellS j hjS).2
                    have hjl2 : (j : Int) < (S2.length : Int) := by omega
                    have htz := hst.2.1.small _ (List.getElem_mem hjS)
                    have hgotS := hst.2.1.sound _ (List.getElem_mem hjS)
                    have hsml := hid (fun z hz => hst.2.1.small z hz)
                    obtain ⟨t, hte⟩ : ∃ t, t = S2[j].1 := ⟨_, rfl⟩
                    obtain ⟨x, hxe⟩ : ∃ x, x = l[q] := ⟨_, rfl⟩
                    have hpair : S2[j] = (t, r) := Prod.ext hte.symm hjr
                    have hstep := hid (fun (S' : List Am) (c : Bool) (y : Am) (hp : PutTo S2 y S' c) (hn : nxt (t, r) x = some y) => round_put (c := c) hrd3 hp hjS hql (by rw [hpair, ← hxe]; exact hn))
                    have hskip := hid (fun hn => round_skip hrd3 hjS hql (by rw [hpair, ← hxe]; exact hn))
                    have hgots := hid (fun (y : Am) (h0 : r.size ≠ 0) (hn : nxt (t, r) x = some y) => Got.step (w := x) (y := y) hgotS (by rw [hjr]; exact h0) (by rw [hxe]; exact List.getElem_mem hql) (by rw [hpair]; exact hn))
                    rw [← hte] at d1 htz
                    rw [← hxe] at g1 hs2
                    have hs2' : x.size ≤ maxLen := by unfold maxLen; omega
                    have HJR := hid hjr
                    clear hcell hcellS hrows hte hxe hpair hgotS hjr hrd3 qf
                    cases hp1 : preB x r
                    · cases hp2 : preB r x
                      · have hgo := hid (hskip.out (nxt_none (x := (t, r)) hp1 hp2))
                        go_wp2_with (go_at_call 66; first | (with_reducible refine (begins_b _ _ _ hs2' hr8' hp1).mono ?_; rintro e w' ⟨rfl, rfl⟩) | (with_reducible refine (begins_b _ _ _ hr8' hs2' hp2).mono ?_; rintro e w' ⟨rfl, rfl⟩))
                        go_roundw
                        case rel => exact ⟨q + 1, S2, mb, by go_num, by omega, hst, hbase, ⟨hjS, HJR.out⟩, hgo.out⟩
                        case measure => simp [intOf]; omega
                      · have HNX := hid (nxt_less (x := (t, r)) hp2)
                        have hgot := hid (hgots.out _ HZ.out HNX.out)
                        have hz2 := preB_sz hp2
                        have hz2i : (x.size : Int) ≤ (r.size : Int) := by omega
                        go_wp2_with (first | (go_at_call 66; first | (with_reducible refine (begins_b _ _ _ hs2' hr8' hp1).mono ?_; rintro e w' ⟨rfl, rfl⟩) | (with_reducible refine (begins_b _ _ _ hr8' hs2' hp2).mono ?_; rintro e w' ⟨rfl, rfl⟩)) | (go_at_call 67; refine (put_any w.heap.size p S2 mb (r.extract x.size r.size) (t) _ hst.1 hst.2.2.size (by omega) (by simp only [ByteArray.size_extract]; unfold maxLen; omega) (by unfold maxLen; first | omega | (simp only [ByteArray.size_append, ByteArray.size_extract]; omega)) (fun z hz => by have := hsml.out z hz; unfold maxLen; omega)).mono ?_; rintro e w6 ⟨S', c, hput, rfl, hrs6, hb6⟩))
                        have hst6 := hst.put hput hgot.out (by simp only; omega) hrs6 hb6
                        have h90' := keys_90 H10.out H8.out hst6.2.1.sound hst6.2.1.keys
                        have hgo := hid (hstep.out S' c _ hput HNX.out (HG.out _ (by simp only; omega)) h90')
                        have hkey := hid ((put_key hput hjS).trans HJR.out)
                        have hpl := put_len hput
                        go_roundw
                        case rel => exact ⟨q + 1, S', mb || c, by go_num, by omega, hst6, base_put hbase hput, ⟨Nat.lt_of_lt_of_le hjS hpl, hkey.out⟩, hgo.out⟩
                        case measure => simp [intOf]; omega
                    · have HNX := hid (nxt_more (x := (t, r)) hp1)
                      have hgot := hid (hgots.out _ HZ.out HNX.out)
                      have hz2 := preB_sz hp1
                      have hz2i : (r.size : Int) ≤ (x.size : Int) := by omega
                      have hlf : (t ++ x.extract r.size x.size).size ≤ t.size + 8 := by simp only [ByteArray.size_append, ByteArray.size_extract]; omega
                      go_wp2_with (first | (go_at_call 66; with_reducible refine (begins_b _ _ _ hs2' hr8' hp1).mono ?_; rintro e w' ⟨rfl, rfl⟩) | (go_at_call 67; refine (put_any w.heap.size p S2 mb (x.extract r.size x.size) (t ++ x.extract r.size x.size) _ hst.1 hst.2.2.size (by omega) (by simp only [ByteArray.size_extract]; unfold maxLen; omega) (by unfold maxLen; first | omega | (simp only [ByteArray.size_append, ByteArray.size_extract]; omega)) (fun z hz => by have := hsml.out z hz; unfold maxLen; omega)).mono ?_; rintro e w6 ⟨S', c, hput, rfl, hrs6, hb6⟩))
                      have hst6 := hst.put hput hgot.out (by simp only at hlf ⊢; omega) hrs6 hb6
                      have h90' := keys_90 H10.out H8.out hst6.2.1.sound hst6.2.1.keys
                      have hgo := hid (hstep.out S' c _ hput HNX.out (HG.out _ (by simp only at hlf ⊢; omega)) h90')
                      have hkey := hid ((put_key hput hjS).trans HJR.out)
                      have hpl := put_len hput
                      go_roundw
                      case rel => exact ⟨q + 1, S', mb || c, by go_num, by omega, hst6, base_put hbase hput, ⟨Nat.lt_of_lt_of_le hjS hpl, hkey.out⟩, hgo.out⟩
                      case measure => simp [intOf]; omega
                  · obtain rfl : n = q := by omega
                    have hgo := hid (round_end (by rw [← HN.out]; exact hrd3))
                    have hqn1 : ¬ (n : Int) < (n : Int) := by omega
                    go_wp2_with fail
                    go_roundw
                    case rel => exact ⟨j + 1, S2, mb, by go_num, by omega, hst, hbase, hgo.out⟩
                    case measure => simp [intOf]; omega
            · have hje : j = S1.length := by omega
              have hjl : ¬ (j : Int) < (S1.length : Int) := by omega
              have hnew := hid (show S2 l w p G (2 * MM G S1 + (if mb = true then 1 else 0)) wr from ⟨S1, mb, hst, hbase, fun h => by
                obtain ⟨e, h2⟩ := hrd2.1 h
                subst e
                rw [← hje]; exact h2, rfl⟩)
              have hmul := (HMU.out _ ⟨_, hnew.out⟩).2 _ hnew.out
              have hlt : 2 * MM G S1 + (if mb = true then 1 else 0) < 2 * MM G S + 1 := by
                cases mb with
                | false =>
                  obtain ⟨e, _⟩ := hrd2.1 rfl
                  subst e
                  simp
                | true =>
                  have := hrd2.2 rfl
                  simp; omega
              clear hje
              go_wp2_with fail
              go_roundw
              case rel => exact ⟨_, hnew.out⟩
              case measure => have := HM2.out; omega
end Go.Proofs.Ytnjdoedhhpkjhaa
