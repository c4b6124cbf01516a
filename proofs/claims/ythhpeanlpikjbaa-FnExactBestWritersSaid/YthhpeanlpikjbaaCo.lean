/-
  Walks: the letters that a page shows in several ways.
-/
import Derived.Test.YthhpeanlpikjbaaCoMath
namespace Go.Proofs.Ythhpeanlpikjbaa
open Go.RowKit Go.ChangeShapes Go.WideShapes Go.Maps
set_option linter.unusedVariables false
attribute [local go_sem ↓] Go.wp_at_zero Go.wp_at_succ

theorem Try.zeroI64 (w : World) : (zeroValue 2).run Try.prog w = .ok (.int .i64 0) w := by kernel_rfl
theorem page_get {l : List Se} (h : pageOk l = true) : l.length ≤ 60 ∧ ∀ i (hi : i < l.length), l[i].1.size = 1 ∧ 0 ≤ l[i].2 ∧ l[i].2 ≤ 6 := by
  unfold pageOk at h
  simp only [Bool.and_eq_true, decide_eq_true_eq] at h
  refine ⟨h.2, fun i hi => ?_⟩
  have h1 := isNone_at h.1 i hi
  rw [badS_get hi] at h1
  simp only [Bool.or_eq_false_iff, Bool.not_eq_false'] at h1
  refine ⟨letB_size h1.1, ?_⟩
  have := h1.2
  unfold inB at this
  exact of_decide_eq_true this
def coL (l : List Se) : List ByteArray := if pageOk l = true then letL (coM l l.length) else []
def coC (l : List Se) : Int := if pageOk l = true then 0 else 1
theorem co_bad {l : List Se} (h : pageOk l = false) : coL l = [] ∧ coC l = 1 := by unfold coL coC; rw [h]; exact ⟨rfl, rfl⟩
theorem co_ok {l : List Se} (h : pageOk l = true) : coL l = letL (coM l l.length) ∧ coC l = 0 := by unfold coL coC; rw [if_pos h, if_pos h]; exact ⟨rfl, rfl⟩
theorem coL_len (l : List Se) : (coL l).length ≤ 256 := by
  unfold coL
  split
  · exact letL_le _
  · simp

set_option maxRecDepth 100000 in
set_option maxHeartbeats 8000000 in
theorem contrary_any (ao : Option Addr) (n cap : Nat) (l : List Se) (w : World) (hn : n = l.length) (hr : Rd w ao (ses l)) (hs : seSmall l) (hm : n ≤ 1048576) :
    Calls Try.prog 28 #[.slice ao n cap] w (RowRet w.heap.size 9 w (strs (coL l)) (coC l)) := by
  have HN := hid hn
  cases h1 : pageOk l
  · have hR := hid (co_bad h1)
    clear hn
    go_enter Try.func28, Try.ntmps28
    go_wp2_with (go_at_call 15; refine (page_any ao n cap l _ HN.out hr hs hm).mono ?_; rw [h1]; rintro e w2 ⟨rfl, hb2⟩)
    go_ret2
    rw [hR.out.1, hR.out.2]
    exact ⟨none, 0, rfl, ⟨rfl, .inl ⟨rfl, rfl⟩⟩, hb2⟩
  have hR := hid (co_ok h1)
  have hpg := hid (page_get h1).2
  have hn60 : n ≤ 60 := by rw [hn]; exact (page_get h1).1
  have hrd := rd_se hr
  clear hn
  have hmm := @run_makeMap Try.prog
  have hzv := zero256
  have hsv := store256a
  have hzs := zb_size
  have hml := hid (coM_len l)
  go_enter Try.func28, Try.ntmps28
  go_wp2_with (go_at_call 15; refine (page_any ao n cap l _ HN.out hr hs hm).mono ?_; rw [h1]; rintro e w2 ⟨rfl, hb2⟩)
  clear hzv hsv hzs hmm h1 hr hs
  have hM0 : (w2.alloc (.map #[] 0)).ownsMap (H := Unit) Try.prog 9 (plainElem Try.prog 2) w2.heap.size 0 (.map []) := World.ownsMap_made _ _ _ _
  have hM1 := hM0.alloc (.cells zb256 88)
  have hz3 : (w2.alloc (.map #[] 0)).heap.size = w2.heap.size + 1 := by simp
  have hH0 := holds_new (w2.alloc (.map #[] 0)) (w2.alloc (.map #[] 0)).heap.size (Nat.le_refl _)
  rw [hz3] at hH0
  have hB0 : Below w2.heap.size w2 ((w2.alloc (.map #[] 0)).alloc (.cells zb256 88)) := ((Below.refl _ _).alloc (Nat.le_refl _) _).alloc (by simp) _
  obtain ⟨w3, hw3⟩ : ∃ w3, w3 = (w2.alloc (.map #[] 0)).alloc (.cells zb256 88) := ⟨_, rfl⟩
  rw [← hw3] at hM1 hH0 hB0 ⊢
  clear hw3 hM0 hz3
  go_loopw [7, 8, 9, 17] (fun _ _ _ i wr => ∃ (k : Nat) (D : DataW Unit), k ≤ n ∧ i = .int .i64 k ∧ Hid (FA D l k) ∧ wr.ownsMap (H := Unit) Try.prog 9 (plainElem Try.prog 2) w2.heap.size k D ∧ HoldsM wr (w2.heap.size + 1) (w2.heap.size + 1) (coM l k) ∧ Below w2.heap.size w2 wr) (fun _ _ _ i _ => n - (intOf i).toNat)
  case atStart => exact ⟨0, .map [], Nat.zero_le _, rfl, hid (fa_zero l), hM1, hH0, hB0⟩
  case round =>
    clear hM1 hH0 hB0
    obtain ⟨k, D, hk, rfl, hF, hown, hH, hB⟩ := hrel
    have hz := hB.size
    by_cases hlt : k < n
    · rcases hrd with hnil | ⟨b, o, rfl, hbl, hcell⟩
      · exact absurd (by rw [HN.out, hnil]; rfl : n = 0) (by omega)
      have hkl : k < l.length := by rw [← HN.out]; exact hlt
      have hBB := hb2.trans (hB.mono hb2.size)
      have g1 := (hBB.cell (p := ⟨b, o + k * 2, none⟩) hbl).trans (hcell k hkl).1
      have g2 := (hBB.cell (p := ⟨b, o + k * 2 + 1, none⟩) hbl).trans (hcell k hkl).2
      obtain ⟨hone, hk1, hk2⟩ := hpg.out k hkl
      have hlk := hid (ltrK_get hkl)
      have hkk := hid (kindAt_get hkl)
      have hput := hid (fun h => fa_put (hown.isMap) hF.out h)
      have hkeep := hid (fun j h => fa_keep (j := j) hF.out h)
      have hcn := hid (fun h => coM_none (l := l) (k := k) h)
      have hcs := hid (fun j h h2 => coM_same (l := l) (k := k) (j := j) h h2)
      have hct := hid (fun j h h2 => coM_set (l := l) (k := k) (j := j) h h2)
      have hfs := hF.out (ltrK l k)
      rw [hlk.out] at hput hkeep hcn hcs hct hfs
      rw [hkk.out] at hput hcs hct
      clear hcell hlk hkk
      obtain ⟨z, hzz⟩ : ∃ z, z = l[k] := ⟨_, rfl⟩
      rw [← hzz] at g1 g2 hone hk1 hk2 hput hkeep hcn hcs hct hfs
      clear hzz hkl
      obtain ⟨zs, zk⟩ := z
      dsimp only at g1 g2 hone hk1 hk2 hput hkeep hcn hcs hct hfs
      have hk0 : (0 : Int) ≤ (k : Int) := by omega
      have hkn : (k : Int) < (n : Int) := by omega
      have hkey : keyOf Try.prog 9 (.string zs) = some (.string zs.data.toList) := WideMaps.keyOf_string_mk Try.underlying9 (by unfold maxLen; omega)
      have hwf : (Lit.int .i64 zk).wf = true := by simp [Lit.wf, IntKind.min, IntKind.max, IntKind.signed, IntKind.bits]; omega
      have hown1 := hown.alloc (.cells #[.string zs, .int .i64 zk] 72)
      have hH1 := hH.below ((Below.refl wr.heap.size wr).alloc (Nat.le_refl _) (.cells #[.string zs, .int .i64 zk] 72))
      have hB1 : Below w2.heap.size w2 (wr.alloc (.cells #[.string zs, .int .i64 zk] 72)) := hB.alloc hz _
      have hmb := hown.lt
      have hgl := hH.lt.2
      have hz1 : 0 < zs.size := by omega
      have hzi : (0 : Int) < (zs.size : Int) := by omega
      have HHD := hid (headN_get hz1)
      have h256 : zs[0].toNat < 256 := UInt8.toNat_lt _
      have hi0 : (0 : Int) ≤ ((zs[0].toNat : Nat) : Int) := by omega
      have hi1 : ((zs[0].toNat : Nat) : Int) < 256 := by omega
      cases hf : fstI l k zs with
      | none =>
        have hhas : Maps.has D (.string zs.data.toList) = false := by have := hfs.1; rw [hf] at this; exact this
        have hF2 := hid (hput.out hf)
        have hm2 := hid (hcn.out hf)
        clear hfs hput hkeep hcn hcs hct hf
        go_wp2_with (first | (at_lookup; refine wpList_lookup_own_ok_int _ rfl _ _ 87 rfl 9 2 .i64 (string_keyed Try.underlying9) Try.underlying87 Try.underlying2 (Try.zeroI64 _) w2.heap.size k D rfl hown1 _ _ rfl hkey ?_; intro c hat hwc; rw [hhas]; skip) | (at_mapUpdate; refine wpList_mapUpdate_own _ rfl _ _ _ 87 rfl 9 2 (string_keyed Try.underlying9) Try.underlying87 _ w2.heap.size k D rfl hown1 (by unfold maxLen; omega) _ _ _ rfl rfl hkey _ [] (plainElem_int Try.underlying2 hwf) ?_; intro w5 hown5 hgrow5))
        go_roundw
        case rel =>
          refine ⟨k + 1, _, by omega, by go_num, hF2, hown5, ?_, hB1.grown hgrow5 hB1.size (by intro q hq; simp at hq; omega)⟩
          rw [hm2.out]
          exact ⟨hH1.1, hH1.2.kept hgrow5 (.inr (by simp [Value.ownBlock]))⟩
        case measure => simp [intOf]; omega
      | some j =>
        have hhas : Maps.has D (.string zs.data.toList) = true := by have := hfs.1; rw [hf] at this; exact this
        have hat0 := hid (hfs.2 j hf)
        have hF2 := hid (hkeep.out j hf)
        by_cases hq : kindAt l j = zk
        · have hm2 := hid (hcs.out j hf hq)
          have HQ := hid hq
          clear hfs hput hkeep hcn hcs hct hf hq
          go_wp2_with (at_lookup; refine wpList_lookup_own_ok_int _ rfl _ _ 87 rfl 9 2 .i64 (string_keyed Try.underlying9) Try.underlying87 Try.underlying2 (Try.zeroI64 _) w2.heap.size k D rfl hown1 _ _ rfl hkey ?_; intro c hat hwc; rw [hhas]; have e1 : (c != zk) = false := neI_false (by have h7 := hat.symm.trans (hat0.out _); simp at h7; rw [h7]; exact HQ.out); clear hat hwc)
          go_roundw
          case rel => exact ⟨k + 1, D, by omega, by go_num, hF2, hown1.mono (by omega), by rw [hm2.out]; exact hH1, hB1⟩
          case measure => simp [intOf]; omega
        · have hm2 := hid (hct.out j hf hq)
          have HQ := hid hq
          have hcm := hH1.cell h256
          have hfz := hH1.frozen zs[0].toNat
          clear hfs hput hkeep hcn hcs hct hf hq
          go_wp2_with (at_lookup; refine wpList_lookup_own_ok_int _ rfl _ _ 87 rfl 9 2 .i64 (string_keyed Try.underlying9) Try.underlying87 Try.underlying2 (Try.zeroI64 _) w2.heap.size k D rfl hown1 _ _ rfl hkey ?_; intro c hat hwc; rw [hhas]; have e1 : (c != zk) = true := neI_true (by have h7 := hat.symm.trans (hat0.out _); simp at h7; rw [h7]; exact HQ.out); clear hat hwc)
          go_roundw
          case rel => exact ⟨k + 1, D, by omega, by go_num, hF2, ((hown.mono (by omega)).setCell (by simp) _).alloc _, by rw [hm2.out, HHD.out]; exact (hH.store _ _).below ((Below.refl _ _).alloc (Nat.le_refl _) _), (hB.setCell (by simp) _).alloc (by simpa using hz) _⟩
          case measure => simp [intOf]; omega
    · obtain rfl : n = k := by omega
      have hL := hid (show coM l l.length = coM l n by rw [← HN.out])
      go_wp2_with fail
      refine (asc_any _ _ _ _ hH).mono ?_
      rintro e w6 ⟨rfl, hb6⟩
      have hB6 := hB.trans (hb6.mono hz)
      go_wp2_with fail
      refine (letList_any _ _).mono ?_
      rintro e w7 ⟨g, c, rfl, hown7, hb7⟩
      go_wp2_with fail
      go_ret2
      rw [hR.out.1, hR.out.2, hL.out]
      exact ⟨some ⟨g, 0, none⟩, c, by rw [strs_len]; rfl, by rw [strs_len]; exact owns_mono hown7 (Nat.le_trans hb2.size hB6.size), hb2.trans ((hB6.trans (hb7.mono hB6.size)).mono hb2.size)⟩
set_option maxRecDepth 100000 in
set_option maxHeartbeats 8000000 in
theorem sContrary_any (ao : Option Addr) (n cap : Nat) (l : List Se) (w : World) (hn : n = l.length) (hr : Rd w ao (ses l)) (hs : seSmall l) (hm : n ≤ 1048576) :
    Calls Try.prog 27 #[.slice ao n cap] w (RowRet w.heap.size 9 w (strs (coL l)) (coC l)) := by
  have HN := hid hn
  cases h1 : pageOk l
  · have hR := hid (co_bad h1)
    clear hn
    go_enter Try.func27, Try.ntmps27
    go_wp2_with (go_at_call 50; refine (sPage_any ao n cap l _ HN.out hr hs hm).mono ?_; rw [h1]; rintro e w2 ⟨rfl, hb2⟩)
    go_ret2
    rw [hR.out.1, hR.out.2]
    exact ⟨none, 0, rfl, ⟨rfl, .inl ⟨rfl, rfl⟩⟩, hb2⟩
  have hR := hid (co_ok h1)
  have hpg := hid (page_get h1).2
  have hn60 : n ≤ 60 := by rw [hn]; exact (page_get h1).1
  have hrd := rd_se hr
  clear hn
  have hml := hid (spM_len l)
  go_enter Try.func27, Try.ntmps27
  go_wp2_with (go_at_call 50; refine (sPage_any ao n cap l _ HN.out hr hs hm).mono ?_; rw [h1]; rintro e w2 ⟨rfl, hb2⟩)
  clear h1 hr hs
  have hown0 : (w2.alloc (.cells #[] 9)).ownsRow w2.heap.size 9 1 (.slice (some ⟨w2.heap.size, 0, none⟩) (letL (spM l 0)).length 0) (letL (spM l 0)).length (strs (letL (spM l 0))) := by
    rw [spM, noMk_letL]
    exact owns_lit w2 9 w2.heap.size (Nat.le_refl _)
  have hl0 : (letL (spM l 0)).length = 0 := by rw [spM, noMk_letL]; rfl
  have hB0 : Below w2.heap.size w2 (w2.alloc (.cells #[] 9)) := (Below.refl _ _).alloc (Nat.le_refl _) _
  obtain ⟨w3, hw3⟩ : ∃ w3, w3 = w2.alloc (.cells #[] 9) := ⟨_, rfl⟩
  rw [← hw3] at hown0 hB0 ⊢
  clear hw3
  go_loopw [4, 5, 6] (fun v i _ wr => ∃ k g cp : Nat, k ≤ n ∧ i = .int .i64 k ∧ v = .slice (some ⟨g, 0, none⟩) (letL (spM l k)).length cp ∧ wr.ownsRow w2.heap.size 9 1 (.slice (some ⟨g, 0, none⟩) (letL (spM l k)).length cp) (letL (spM l k)).length (strs (letL (spM l k))) ∧ Below w2.heap.size w2 wr) (fun _ i _ _ => n - (intOf i).toNat)
  case atStart => exact ⟨0, w2.heap.size, 0, Nat.zero_le _, rfl, by rw [hl0], hown0, hB0⟩
  case round =>
    clear hown0 hB0 hl0
    obtain ⟨k, g, cp, hk, rfl, rfl, hown, hB⟩ := hrel
    have hz := hB.size
    by_cases hlt : k < n
    · rcases hrd with hnil | ⟨b, o, rfl, hbl, hcell⟩
      · exact absurd (by rw [HN.out, hnil]; rfl : n = 0) (by omega)
      have hkl : k < l.length := by rw [← HN.out]; exact hlt
      have G1 := hid (fun W (hb : Below w2.heap.size w2 W) => ((hb2.trans (hb.mono hb2.size)).cell (p := ⟨b, o + k * 2, none⟩) hbl).trans (hcell k hkl).1)
      have G2 := hid (fun W (hb : Below w2.heap.size w2 W) => ((hb2.trans (hb.mono hb2.size)).cell (p := ⟨b, o + k * 2 + 1, none⟩) hbl).trans (hcell k hkl).2)
      have GQ := hid (fun q (hq : q < l.length) W (hb : Below w2.heap.size w2 W) => (⟨((hb2.trans (hb.mono hb2.size)).cell (p := ⟨b, o + q * 2, none⟩) hbl).trans (hcell q hq).1, ((hb2.trans (hb.mono hb2.size)).cell (p := ⟨b, o + q * 2 + 1, none⟩) hbl).trans (hcell q hq).2⟩ : W.cell? ⟨b, o + q * 2, none⟩ = some (.string l[q].1) ∧ W.cell? ⟨b, o + q * 2 + 1, none⟩ = some (.int .i64 l[q].2)))
      obtain ⟨hone, hk1, hk2⟩ := hpg.out k hkl
      have hlk := hid (ltrK_get hkl)
      have hkk := hid (kindAt_get hkl)
      have hnext : spM l (k + 1) = spRow (spM l k) l k k := rfl
      have HNX := hid hnext
      have hzero : spRow (spM l k) l k 0 = spM l k := rfl
      have hlen := hml.out k
      clear hcell hnext
      obtain ⟨M, hM⟩ : ∃ M, M = spM l k := ⟨_, rfl⟩
      rw [← hM] at HNX hzero hown hlen ⊢
      clear hM
      have hyes := hid (fun q h => spRow_yes (ms := M) (l := l) (i := k) (q := q) h)
      have hno := hid (fun q h => spRow_no (ms := M) (l := l) (i := k) (q := q) h)
      have hrl := hid (fun q => (spRow_len M l k q).trans hlen)
      have hsb : Hid (∀ q, spB l k q = (((ltrK l q).toList == (ltrK l k).toList) && (kindAt l q != kindAt l k))) := hid (fun q => rfl)
      rw [hlk.out] at hyes hsb
      rw [hkk.out] at hsb
      clear hlk hkk
      obtain ⟨z, hzz⟩ : ∃ z, z = l[k] := ⟨_, rfl⟩
      rw [← hzz] at G1 G2 hone hk1 hk2 hyes hsb
      clear hzz hkl
      obtain ⟨zs, zk⟩ := z
      dsimp only at G1 G2 hone hk1 hk2 hyes hsb
      rw [headN_one hone] at G1 hsb
      have hh := headN_lt zs
      obtain ⟨hd, hhd⟩ : ∃ hd, hd = headN zs := ⟨_, rfl⟩
      have hyes2 : Hid (∀ q, spB l k q = true → spRow M l k (q + 1) = (spRow M l k q).set hd true) := hid (fun q h => by rw [hhd]; exact hyes.out q h)
      rw [← hhd] at G1 hh hsb
      clear hyes hhd hone
      obtain ⟨T, hT⟩ : ∃ T, T = oneT hd := ⟨_, rfl⟩
      rw [← hT] at G1 hsb
      have HT := hid hT
      clear hT
      have hk0 : (0 : Int) ≤ (k : Int) := by omega
      have hkn : (k : Int) < (n : Int) := by omega
      rw [← hzero] at hown ⊢
      go_wp2_with fail
      go_loopw [4, 6] (fun v i wr2 => ∃ q g cp : Nat, q ≤ k ∧ i = .int .i64 q ∧ v = .slice (some ⟨g, 0, none⟩) (letL (spRow M l k q)).length cp ∧ wr2.ownsRow w2.heap.size 9 1 (.slice (some ⟨g, 0, none⟩) (letL (spRow M l k q)).length cp) (letL (spRow M l k q)).length (strs (letL (spRow M l k q))) ∧ Below w2.heap.size w2 wr2) (fun _ i _ => k - (intOf i).toNat)
      case atStart => exact ⟨0, g, cp, Nat.zero_le _, rfl, rfl, hown, hB⟩
      case round =>
        clear hown hB hz
        obtain ⟨q, g, cp, hq, rfl, rfl, hown, hB⟩ := hrel
        have hz := hB.size
        by_cases hql : q < k
        · have hqa : q < l.length := by rw [← HN.out]; omega
          have g1 := G1.out wr hB
          have g2 := G2.out wr hB
          obtain ⟨g3, g4⟩ := GQ.out q hqa wr hB
          have hsq := hid (hsb.out q)
          rw [ltrK_get hqa, kindAt_get hqa] at hsq
          have hy := hid (hyes2.out q)
          have hn' := hid (hno.out q)
          have hrq := hid (hrl.out q)
          obtain ⟨y, hyy⟩ : ∃ y, y = l[q] := ⟨_, rfl⟩
          rw [← hyy] at g3 g4 hsq
          clear hyy hqa
          obtain ⟨ys, yk⟩ := y
          dsimp only at g3 g4 hsq
          obtain ⟨Mq, hMq⟩ : ∃ Mq, Mq = spRow M l k q := ⟨_, rfl⟩
          rw [← hMq] at hy hn' hrq hown ⊢
          clear hMq
          have hq0 : (0 : Int) ≤ (q : Int) := by omega
          have hqk : (q : Int) < (k : Int) := by omega
          have hqn : (q : Int) < (n : Int) := by omega
          obtain ⟨nn, hnn⟩ : ∃ nn, nn = (letL Mq).length := ⟨_, rfl⟩
          have HNN := hid hnn
          have hownq := hid hown
          rw [← hnn] at hown ⊢
          clear hnn
          cases c1 : (ys.toList == T.toList)
          case false =>
            have hn1 := hid (hn'.out (by rw [hsq.out, c1]; rfl))
            go_wp2_with fail
            go_quiet (fail)
            go_wp2
            go_roundw
            case rel => exact ⟨q + 1, g, cp, by omega, by go_num, by rw [hn1.out, ← HNN.out], by rw [hn1.out]; exact owns_drewN hownq.out _, below_drewN hB _⟩
            case measure => simp [intOf]; omega
          by_cases c2 : yk = zk
          · have hn1 := hid (hn'.out (by rw [hsq.out, c1, neI_false c2]; rfl))
            have e2 := neI_false c2
            clear c2
            go_wp2_with fail
            go_quiet (fail)
            go_wp2
            go_roundw
            case rel => exact ⟨q + 1, g, cp, by omega, by go_num, by rw [hn1.out, ← HNN.out], by rw [hn1.out]; exact owns_drewN hownq.out _, below_drewN hB _⟩
            case measure => simp [intOf]; omega
          · have hy1 := hid (hy.out (by rw [hsq.out, c1, neI_true c2]; rfl))
            have e2 := neI_true c2
            clear c2
            go_wp2_with fail
            go_quiet (fail)
            have hp := hid (sPut_any w2.heap.size g cp Mq hd (wr.drewN nq) hh hrq.out hz (owns_drewN hownq.out _))
            rw [← HT.out, ← HNN.out] at hp
            go_wp2_with (go_at_call 64; refine hp.out.mono ?_; rintro e w5 ⟨g5, c5, rfl, hown5, hb5⟩)
            go_roundw
            case rel => exact ⟨q + 1, g5, c5, by omega, by go_num, by rw [hy1.out], by rw [hy1.out]; exact hown5, (below_drewN hB nq).trans (hb5.mono hz)⟩
            case measure => simp [intOf]; omega
        · obtain rfl : k = q := by omega
          go_wp2
          go_roundw
          case rel => exact ⟨k + 1, g, cp, by omega, by go_num, by rw [HNX.out], by rw [HNX.out]; exact hown, hB⟩
          case measure => simp [intOf]; omega
    · obtain rfl : n = k := by omega
      have he : letL (spM l n) = letL (coM l l.length) := by rw [← HN.out]; exact co_eq l n
      rw [he] at hown ⊢
      have HE := hid he
      clear he
      go_wp2
      go_ret2
      rw [hR.out.1, hR.out.2]
      exact ⟨some ⟨g, 0, none⟩, cp, by rw [strs_len]; rfl, by rw [strs_len]; exact owns_mono hown hb2.size, hb2.trans (hB.mono hb2.size)⟩
end Go.Proofs.Ythhpeanlpikjbaa
