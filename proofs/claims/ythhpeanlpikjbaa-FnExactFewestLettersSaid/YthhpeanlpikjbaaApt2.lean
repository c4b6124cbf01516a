/-
  Walks: the letters by which two machines differ: the reference's list, and both whole functions.
-/
import Derived.Test.YthhpeanlpikjbaaApt
namespace Go.Proofs.Ythhpeanlpikjbaa
open Go.RowKit Go.ChangeShapes Go.WideShapes
set_option linter.unusedVariables false
attribute [local go_sem ↓] Go.wp_at_zero Go.wp_at_succ

theorem letB_size {x : ByteArray} (h : letB x = true) : x.size = 1 := by
  unfold letB at h
  simp only [Bool.and_eq_true, decide_eq_true_eq] at h
  exact h.1
theorem isNone_at {p : Nat → Bool} {n : Nat} (h : (firstAt p n).isNone = true) : ∀ j, j < n → p j = false := by
  intro j hj
  have h1 : firstAt p n = none := by simpa using h
  unfold firstAt at h1
  have := List.find?_eq_none.1 h1 j (List.mem_range.2 hj)
  simpa using this
theorem oneB_get {x : ByteArray} {l : List Se} (h : oneB x l = true) : Ones l ∧ l.length ≤ 10 := by
  unfold oneB at h
  simp only [Bool.and_eq_true, decide_eq_true_eq] at h
  refine ⟨fun f hf => ?_, h.2.1⟩
  obtain ⟨j, hj, rfl⟩ := List.getElem_of_mem hf
  have h1 := isNone_at h.2.2 j hj
  cases h2 : letB l[j].1
  · rw [badF_one hj (by rw [h2]; rfl)] at h1; cases h1
  · exact letB_size h2
theorem wrAtDrew {w : World} {pb po : Nat} {x : ByteArray} {ao : Option Addr} {n cap : Nat} (h : WrAt w pb po x ao n cap) (m : Nat) : WrAt (w.drewN m) pb po x ao n cap := ⟨h.lt, h.c0, h.c1⟩
theorem noMk_letL : letL noMk = [] := by unfold letL noMk; rw [bytes_none]; rfl
theorem fl_zero (fa fb : List Se) (L : List ByteArray) : (L.take 0).filter (difK fa fb) = [] := by simp
/-- how many letters there can be -/
theorem fl_le (fa fb : List Se) {L : List ByteArray} (h : L.length ≤ 256) (k : Nat) : ((L.take k).filter (difK fa fb)).length ≤ 256 := by
  have := List.length_filter_le (difK fa fb) (L.take k)
  have h2 : (L.take k).length ≤ L.length := by rw [List.length_take]; omega
  omega

set_option maxRecDepth 100000 in
set_option maxHeartbeats 8000000 in
theorem sApt_any (pa pao pb pbo : Nat) (xa : ByteArray) (aa : Option Addr) (na ca : Nat) (fa : List Se) (xb : ByteArray) (ab : Option Addr) (nb cb : Nat) (fb : List Se) (w : World) (pwA : WrAt w pa pao xa aa na ca) (pwB : WrAt w pb pbo xb ab nb cb)
    (hna : na = fa.length) (hra : Rd w aa (ses fa)) (hma : na ≤ 1048576) (hoA : Ones fa) (hnb : nb = fb.length) (hrb : Rd w ab (ses fb)) (hmb : nb ≤ 1048576) (hoB : Ones fb) :
    Calls Try.prog 73 #[.pointer (some ⟨pa, pao, none⟩), .pointer (some ⟨pb, pbo, none⟩)] w (PutRet w.heap.size w (letL (apM noMk fa fb))) := by
  obtain ⟨i0, hi, iz0, iz1, iz2⟩ := info_parts Try.infoStrP
  have HNA := hid hna
  have HNB := hid hnb
  have hrdA := rd_se hra
  have hrdB := rd_se hrb
  clear hna hnb
  have hown0 : (w.alloc (.cells #[] 9)).ownsRow w.heap.size 9 1 (.slice (some ⟨w.heap.size, 0, none⟩) (letL (mkW (fun _ => true) noMk fa 0)).length 0) (letL (mkW (fun _ => true) noMk fa 0)).length (strs (letL (mkW (fun _ => true) noMk fa 0))) := by
    rw [mkW, noMk_letL]
    exact owns_lit w 9 w.heap.size (Nat.le_refl _)
  have hB0 : Below w.heap.size w (w.alloc (.cells #[] 9)) := (Below.refl _ _).alloc (Nat.le_refl _) _
  have hl0 : (letL (mkW (fun _ => true) noMk fa 0)).length = 0 := by rw [mkW, noMk_letL]; rfl
  have hbase := hid noMk_len
  go_enter Try.func73, Try.ntmps73
  go_wp2_with fail
  obtain ⟨w1, hw1⟩ : ∃ w1, w1 = w.alloc (.cells #[] 9) := ⟨_, rfl⟩
  rw [← hw1] at hown0 hB0 ⊢
  clear hw1
  go_loopw [5, 6] (fun v i wr => ∃ c g cp : Nat, c ≤ na ∧ i = .int .i64 c ∧ v = .slice (some ⟨g, 0, none⟩) (letL (mkW (fun _ => true) noMk fa c)).length cp ∧ wr.ownsRow w.heap.size 9 1 (.slice (some ⟨g, 0, none⟩) (letL (mkW (fun _ => true) noMk fa c)).length cp) (letL (mkW (fun _ => true) noMk fa c)).length (strs (letL (mkW (fun _ => true) noMk fa c))) ∧ Below w.heap.size w wr) (fun _ i _ => na - (intOf i).toNat)
  case atStart => exact ⟨0, w.heap.size, 0, Nat.zero_le _, rfl, by rw [hl0], hown0, hB0⟩
  case round =>
    clear hown0 hB0 hl0
    obtain ⟨c, g, cp, hc, rfl, rfl, hown, hB⟩ := hrel
    have hz := hB.size
    obtain ⟨_, q0, q1⟩ := pwA.below hB pwA.lt hz
    have hml : (mkW (fun _ => true) noMk fa c).length = 256 := by rw [mkW_len]; exact hbase.out
    by_cases hcl : c < na
    · rcases hrdA with hnil | ⟨b, o, rfl, hbl, hcell⟩
      · exact absurd (by rw [HNA.out, hnil]; rfl : na = 0) (by omega)
      have hcf : c < fa.length := by rw [← HNA.out]; exact hcl
      have g1 := (hB.cell (p := ⟨b, o + c * 2, none⟩) hbl).trans (hcell c hcf).1
      have hone := hoA _ (List.getElem_mem hcf)
      have hy := hid (mkW_yes (p := fun _ => true) (ms := noMk) (fs := fa) hcf rfl)
      rw [headN_one hone] at g1
      have hh := headN_lt fa[c].1
      obtain ⟨hd, hhd⟩ : ∃ hd, hd = headN fa[c].1 := ⟨_, rfl⟩
      rw [← hhd] at g1 hy hh
      clear hcell hone hhd hcf
      have HML := hid hml
      clear hml
      obtain ⟨M, hM⟩ : ∃ M, M = mkW (fun _ => true) noMk fa c := ⟨_, rfl⟩
      rw [← hM] at hy HML hown ⊢
      clear hM
      have hc0 : (0 : Int) ≤ (c : Int) := by omega
      have hcn : (c : Int) < (na : Int) := by omega
      have hp := hid (sPut_any w.heap.size g cp M hd wr hh HML.out hz hown)
      obtain ⟨T, hT⟩ : ∃ T, T = oneT hd := ⟨_, rfl⟩
      obtain ⟨nn, hnn⟩ : ∃ nn, nn = (letL M).length := ⟨_, rfl⟩
      rw [← hT] at g1 hp
      rw [← hnn] at hp ⊢
      clear hT hnn hown
      go_wp2_with (go_at_call 64; refine hp.out.mono ?_; rintro e w5 ⟨g5, c5, rfl, hown5, hb5⟩)
      go_roundw
      case rel => exact ⟨c + 1, g5, c5, by omega, by go_num, by rw [hy.out], by rw [hy.out]; exact hown5, hB.trans (hb5.mono hz)⟩
      case measure => simp [intOf]; omega
    · obtain rfl : na = c := by omega
      have hl := hid (show mkW (fun _ => true) noMk fa na = mkW (fun _ => true) noMk fa fa.length by rw [← HNA.out])
      rw [hl.out] at hown hml ⊢
      clear hl
      have HB0 := hid hB
      have hbase := hid hml
      have hown0 : wr.ownsRow w.heap.size 9 1 (.slice (some ⟨g, 0, none⟩) (letL (mkW (fun _ => true) (mkW (fun _ => true) noMk fa fa.length) fb 0)).length cp) (letL (mkW (fun _ => true) (mkW (fun _ => true) noMk fa fa.length) fb 0)).length (strs (letL (mkW (fun _ => true) (mkW (fun _ => true) noMk fa fa.length) fb 0))) := hown
      have hB0 := hB
      clear hml hown hz hB
      go_wp2_with fail
      clear q0 q1
      go_loopw [5, 7] (fun v i wr => ∃ c g cp : Nat, c ≤ nb ∧ i = .int .i64 c ∧ v = .slice (some ⟨g, 0, none⟩) (letL (mkW (fun _ => true) (mkW (fun _ => true) noMk fa fa.length) fb c)).length cp ∧ wr.ownsRow w.heap.size 9 1 (.slice (some ⟨g, 0, none⟩) (letL (mkW (fun _ => true) (mkW (fun _ => true) noMk fa fa.length) fb c)).length cp) (letL (mkW (fun _ => true) (mkW (fun _ => true) noMk fa fa.length) fb c)).length (strs (letL (mkW (fun _ => true) (mkW (fun _ => true) noMk fa fa.length) fb c))) ∧ Below w.heap.size w wr) (fun _ i _ => nb - (intOf i).toNat)
      case atStart => exact ⟨0, g, cp, Nat.zero_le _, rfl, rfl, hown0, hB0⟩
      case round =>
        clear hown0 hB0
        obtain ⟨c, g, cp, hc, rfl, rfl, hown, hB⟩ := hrel
        have hz := hB.size
        obtain ⟨_, q0, q1⟩ := pwB.below hB pwB.lt hz
        have hml : (mkW (fun _ => true) (mkW (fun _ => true) noMk fa fa.length) fb c).length = 256 := by rw [mkW_len]; exact hbase.out
        by_cases hcl : c < nb
        · rcases hrdB with hnil | ⟨b, o, rfl, hbl, hcell⟩
          · exact absurd (by rw [HNB.out, hnil]; rfl : nb = 0) (by omega)
          have hcf : c < fb.length := by rw [← HNB.out]; exact hcl
          have g1 := (hB.cell (p := ⟨b, o + c * 2, none⟩) hbl).trans (hcell c hcf).1
          have hone := hoB _ (List.getElem_mem hcf)
          have hy := hid (mkW_yes (p := fun _ => true) (ms := (mkW (fun _ => true) noMk fa fa.length)) (fs := fb) hcf rfl)
          rw [headN_one hone] at g1
          have hh := headN_lt fb[c].1
          obtain ⟨hd, hhd⟩ : ∃ hd, hd = headN fb[c].1 := ⟨_, rfl⟩
          rw [← hhd] at g1 hy hh
          clear hcell hone hhd hcf
          have HML := hid hml
          clear hml
          obtain ⟨M, hM⟩ : ∃ M, M = mkW (fun _ => true) (mkW (fun _ => true) noMk fa fa.length) fb c := ⟨_, rfl⟩
          rw [← hM] at hy HML hown ⊢
          clear hM
          have hc0 : (0 : Int) ≤ (c : Int) := by omega
          have hcn : (c : Int) < (nb : Int) := by omega
          have hp := hid (sPut_any w.heap.size g cp M hd wr hh HML.out hz hown)
          obtain ⟨T, hT⟩ : ∃ T, T = oneT hd := ⟨_, rfl⟩
          obtain ⟨nn, hnn⟩ : ∃ nn, nn = (letL M).length := ⟨_, rfl⟩
          rw [← hT] at g1 hp
          rw [← hnn] at hp ⊢
          clear hT hnn hown
          go_wp2_with (go_at_call 64; refine hp.out.mono ?_; rintro e w5 ⟨g5, c5, rfl, hown5, hb5⟩)
          go_roundw
          case rel => exact ⟨c + 1, g5, c5, by omega, by go_num, by rw [hy.out], by rw [hy.out]; exact hown5, hB.trans (hb5.mono hz)⟩
          case measure => simp [intOf]; omega
        · obtain rfl : nb = c := by omega
          have hl := hid (show mkW (fun _ => true) (mkW (fun _ => true) noMk fa fa.length) fb nb = mkW (fun _ => true) (mkW (fun _ => true) noMk fa fa.length) fb fb.length by rw [← HNB.out])
          rw [hl.out] at hown hml ⊢
          have hall : mkW (fun _ => true) (mkW (fun _ => true) noMk fa fa.length) fb fb.length = allM fa fb := rfl
          rw [hall] at hown hml ⊢
          clear hall hl hbase
          have h256 := letL_le (allM fa fb)
          obtain ⟨AL, hAL⟩ : ∃ AL, AL = letL (allM fa fb) := ⟨_, rfl⟩
          have HAL := hid hAL
          rw [← hAL] at hown h256 ⊢
          clear hAL
          have hyes := hid (fun k hk hp => filter_yes (p := difK fa fb) (l := AL) (k := k) hk hp)
          have hno := hid (fun k hk hp => filter_no (p := difK fa fb) (l := AL) (k := k) hk hp)
          have hfl := hid (fun k => fl_le fa fb h256 k)
          obtain ⟨an, han⟩ : ∃ an, an = AL.length := ⟨_, rfl⟩
          have HAN := hid han
          rw [← han] at hown h256 ⊢
          clear han
          have hrdL := rd_str (owns_rdN hown)
          go_wp2_with fail
          have hownO : (wr.alloc (.cells #[] 9)).ownsRow w.heap.size 9 1 (.slice (some ⟨wr.heap.size, 0, none⟩) 0 0) 0 (strs ((AL.take 0).filter (difK fa fb))) := by
            rw [fl_zero]
            exact owns_lit wr 9 w.heap.size hz
          have hBO : Below w.heap.size w (wr.alloc (.cells #[] 9)) := hB.alloc hz _
          have hlitO : Below wr.heap.size wr (wr.alloc (.cells #[] 9)) := (Below.refl _ _).alloc (Nat.le_refl _) _
          have hownN : (wr.alloc (.cells #[] 9)).ownsRow wr.heap.size 9 1 (.slice (some ⟨wr.heap.size, 0, none⟩) 0 0) 0 (strs ((AL.take 0).filter (difK fa fb))) := by
            rw [fl_zero]
            exact owns_lit wr 9 wr.heap.size (Nat.le_refl _)
          have hlen0 : ((AL.take 0).filter (difK fa fb)).length = 0 := by rw [fl_zero]; rfl
          obtain ⟨w6, hw6⟩ : ∃ w6, w6 = wr.alloc (.cells #[] 9) := ⟨_, rfl⟩
          rw [← hw6] at hownO hownN hBO hlitO ⊢
          clear hw6 hown
          generalize wr = w3 at *
          have hz36 := hlitO.size
          go_loopw [8, 9] (fun v i wr => ∃ c g2 cp2 : Nat, c ≤ an ∧ i = .int .i64 c ∧ v = .slice (some ⟨g2, 0, none⟩) ((AL.take c).filter (difK fa fb)).length cp2 ∧ wr.ownsRow w3.heap.size 9 1 (.slice (some ⟨g2, 0, none⟩) ((AL.take c).filter (difK fa fb)).length cp2) ((AL.take c).filter (difK fa fb)).length (strs ((AL.take c).filter (difK fa fb))) ∧ Below w3.heap.size w3 wr) (fun _ i _ => an - (intOf i).toNat)
          case atStart => exact ⟨0, w3.heap.size, 0, Nat.zero_le _, rfl, by rw [hlen0], by rw [hlen0]; exact hownN, hlitO⟩
          case round =>
            clear hownO hownN hBO hlitO hlen0 hz36
            obtain ⟨c, g2, cp2, hc, rfl, rfl, hown2, hB3⟩ := hrel
            have hz3 := hB3.size
            by_cases hcl : c < an
            · rcases hrdL with hnil | ⟨bl, ol, hbe, hbl, hcell⟩
              · exact absurd (by rw [HAN.out, hnil]; rfl : an = 0) (by omega)
              have hca : c < AL.length := by rw [← HAN.out]; exact hcl
              simp only [Option.some.injEq, Addr.mk.injEq, and_true] at hbe
              obtain ⟨rfl, rfl⟩ := hbe
              have g1 := (hB3.cell (p := ⟨g, 0 + c, none⟩) hbl).trans (hcell c hca)
              rw [Nat.zero_add] at g1
              have hBW := hB.trans (hB3.mono hz)
              have wa := pwA.below hBW pwA.lt hBW.size
              have wb := pwB.below hBW pwB.lt hBW.size
              have RA := hid (rd_below hra hBW)
              have RB := hid (rd_below hrb hBW)
              have hy := hid (fun hp => hyes.out c hca hp)
              have hn := hid (fun hp => hno.out c hca hp)
              have hf := hfl.out c
              clear hcell
              obtain ⟨z, hz'⟩ : ∃ z, z = AL[c] := ⟨_, rfl⟩
              rw [← hz'] at g1 hy hn
              clear hz' hca
              obtain ⟨Lc, hLc⟩ : ∃ Lc, Lc = (AL.take c).filter (difK fa fb) := ⟨_, rfl⟩
              rw [← hLc] at hy hn hown2 hf ⊢
              clear hLc
              obtain ⟨ka, hka⟩ : ∃ r, r = kindI fa z := ⟨_, rfl⟩
              obtain ⟨kb, hkb⟩ : ∃ r, r = kindI fb z := ⟨_, rfl⟩
              have KA := hid hka.symm
              have KB := hid hkb.symm
              have hc0 : (0 : Int) ≤ (c : Int) := by omega
              have hcn : (c : Int) < (an : Int) := by omega
              obtain ⟨wa0, wa1, wa2⟩ := id wa
              obtain ⟨wb0, wb1, wb2⟩ := id wb
              by_cases hk : ka = kb
              · have hn1 := hid (hn.out (difK_no (by rw [← hka, ← hkb]; exact hk)))
                have e1 := neI_false hk
                clear hk hka hkb
                go_wp2_with fail
                go_quiet ((first | (go_at_call 60; with_reducible exact qs (sOf_b pa pao xa aa na ca fa z _ (wrAtDrew wa _) HNA.out (rd_drewN RA.out _) hma KA.out)) | (go_at_call 60; with_reducible exact qs (sOf_b pb pbo xb ab nb cb fb z _ (wrAtDrew wb _) HNB.out (rd_drewN RB.out _) hmb KB.out))))
                go_wp2
                go_roundw
                case rel => exact ⟨c + 1, g2, cp2, by omega, by go_num, by rw [hn1.out], by rw [hn1.out]; exact owns_drewN hown2 _, below_drewN hB3 _⟩
                case measure => simp [intOf]; omega
              · have hn1 := hid (hy.out (difK_yes (by rw [← hka, ← hkb]; exact hk)))
                have e1 := neI_true hk
                clear hk hka hkb
                go_wp2_with fail
                go_quiet ((first | (go_at_call 60; with_reducible exact qs (sOf_b pa pao xa aa na ca fa z _ (wrAtDrew wa _) HNA.out (rd_drewN RA.out _) hma KA.out)) | (go_at_call 60; with_reducible exact qs (sOf_b pb pbo xb ab nb cb fb z _ (wrAtDrew wb _) HNB.out (rd_drewN RB.out _) hmb KB.out))))
                have hown4 : (wr.drewN nq).ownsRow w3.heap.size 9 1 (.slice (some ⟨g2, 0, none⟩) Lc.length cp2) Lc.length (strs Lc) := owns_drewN hown2 _
                have hB4 : Below w3.heap.size w3 (wr.drewN nq) := below_drewN hB3 _
                obtain ⟨w7, hw7⟩ : ∃ w7, w7 = wr.drewN nq := ⟨_, rfl⟩
                have g4 : w7.cell? ⟨g, c, none⟩ = some (.string z) := by rw [hw7]; exact g1
                rw [← hw7] at hown4 hB4 ⊢
                clear hw7 hown2 hB3
                have hz7 := hB4.size
                go_wp2_with (at_builtin; refine wpList_append_own _ rfl _ _ 48 rfl w3.heap.size 9 i0 (.string ByteArray.empty) 1 16 Try.underlying48 hi iz0 iz1 iz2 rfl (by decide) _ _ _ rfl (hown4.alloc _) ⟨w7.heap.size, 0, none⟩ 1 1 [.string z] rfl rfl (one_new _ _ _) (one_okS _) (by unfold maxLen; omega) (by omega) (by simp; omega) ?_; intro v' w8 hown8 hgrow8 hnil8)
                have hB8 := below_grown (hB4.alloc hz7 _) (by simp; omega) (hown4.alloc _) hgrow8
                rcases owns_form hown8 with ⟨hv, hn0, _⟩ | ⟨g8, c8, rfl, _⟩
                · omega
                go_roundw
                case rel =>
                  have e8 : strs Lc ++ [.string z] = strs (Lc ++ [z]) := by simp [strs]
                  rw [e8] at hown8
                  exact ⟨c + 1, g8, c8, by omega, by go_num, by rw [hn1.out, List.length_append]; rfl, by rw [hn1.out, List.length_append]; exact hown8, hB8⟩
                case measure => simp [intOf]; omega
            · obtain rfl : an = c := by omega
              have hte : AL.take an = AL := by rw [HAN.out]; exact List.take_length
              rw [hte] at hown2 ⊢
              have he : AL.filter (difK fa fb) = letL (apM noMk fa fb) := by rw [HAL.out]; exact ap_eq hoA hoB
              have HE := hid he
              rw [he] at hown2 ⊢
              clear hte he
              go_wp2
              go_ret
              exact ⟨g2, cp2, rfl, owns_mono hown2 hz, hB.trans (hB3.mono hz)⟩
def aptL (xa : ByteArray) (fa : List Se) (xb : ByteArray) (fb : List Se) : List ByteArray := if (oneB xa fa && oneB xb fb) = true then letL (apM noMk fa fb) else []
def aptC (xa : ByteArray) (fa : List Se) (xb : ByteArray) (fb : List Se) : Int := if (oneB xa fa && oneB xb fb) = true then 0 else 1
theorem apt_bad {xa : ByteArray} {fa : List Se} {xb : ByteArray} {fb : List Se} (h : (oneB xa fa && oneB xb fb) = false) : aptL xa fa xb fb = [] ∧ aptC xa fa xb fb = 1 := by unfold aptL aptC; rw [h]; exact ⟨rfl, rfl⟩
theorem apt_ok {xa : ByteArray} {fa : List Se} {xb : ByteArray} {fb : List Se} (h : (oneB xa fa && oneB xb fb) = true) : aptL xa fa xb fb = letL (apM noMk fa fb) ∧ aptC xa fa xb fb = 0 := by unfold aptL aptC; rw [if_pos h, if_pos h]; exact ⟨rfl, rfl⟩
theorem aptL_len (xa : ByteArray) (fa : List Se) (xb : ByteArray) (fb : List Se) : (aptL xa fa xb fb).length ≤ 256 := by
  unfold aptL
  split
  · exact letL_le _
  · simp
/-- what could be read before lies in an elder block -/
theorem rd_old {w : World} {ao : Option Addr} {l : List Se} (h : Rd w ao (ses l)) : ∀ b o, ao = some ⟨b, o, none⟩ → l = [] ∨ b ≠ w.heap.size := by
  intro b o hb
  rcases rd_se h with h | ⟨b2, o2, h1, h2, _⟩
  · exact .inl h
  · rw [hb] at h1
    cases h1
    exact .inr (by omega)
set_option maxRecDepth 100000 in
set_option maxHeartbeats 8000000 in
theorem sLetApart_any (xa : ByteArray) (aa : Option Addr) (na ca : Nat) (fa : List Se) (xb : ByteArray) (ab : Option Addr) (nb cb : Nat) (fb : List Se) (w : World) (hxa : xa.size ≤ maxLen) (hna : na = fa.length) (hra : Rd w aa (ses fa)) (hsa : seSmall fa) (hma : na ≤ 1048576)
    (hxb : xb.size ≤ maxLen) (hnb : nb = fb.length) (hrb : Rd w ab (ses fb)) (hsb : seSmall fb) (hmb : nb ≤ 1048576) :
    Calls Try.prog 39 #[.agg #[.string xa, .slice aa na ca], .agg #[.string xb, .slice ab nb cb]] w (RowRet w.heap.size 9 w (strs (aptL xa fa xb fb)) (aptC xa fa xb fb)) := by
  have HNA := hid hna
  have HNB := hid hnb
  clear hna hnb
  obtain ⟨w1, hw1⟩ : ∃ w1, w1 = (w.alloc (.cells #[.string xa, .slice aa na ca] 44)).alloc (.cells #[.string xb, .slice ab nb cb] 44) := ⟨_, rfl⟩
  have hb1 : Below w.heap.size w w1 := by
    rw [hw1]
    (repeat (first | with_reducible exact Below.refl _ _ | with_reducible assumption | refine Below.drew ?_ | refine below_drewN ?_ _ | (refine Below.alloc ?_ (by first | omega | (simp; done) | (simp; omega)) _) | (refine Below.setCell ?_ (by first | omega | (simp; done) | (simp; omega)) _) | (refine Below.trans ?_ (Below.mono (by assumption) (by first | omega | (simp; done) | (simp; omega))))))
  have wA : WrAt w1 w.heap.size 0 xa aa na ca := ⟨by rw [hw1]; simp; omega, by rw [hw1]; simp, by rw [hw1]; simp⟩
  have wB : WrAt w1 (w.heap.size + 1) 0 xb ab nb cb := ⟨by rw [hw1]; simp, by rw [hw1]; simp, by rw [hw1]; simp⟩
  have rA := rd_below hra hb1
  have rB := rd_below hrb hb1
  have pa0 := wA.c0
  have pa1 : w1.cell? ⟨w.heap.size, 1, none⟩ = some (.slice aa na ca) := wA.c1
  have pb0 := wB.c0
  have pb1 : w1.cell? ⟨w.heap.size + 1, 1, none⟩ = some (.slice ab nb cb) := wB.c1
  cases h1 : oneB xa fa
  · have hR := hid (apt_bad (xb := xb) (fb := fb) (by rw [h1]; rfl : (oneB xa fa && oneB xb fb) = false))
    go_enter Try.func39, Try.ntmps39
    go_wp2_with fail
    rw [← hw1]
    clear hw1
    go_wp2_with (go_at_call 58; refine (sOne_any w.heap.size 0 xa aa na ca fa _ wA hxa HNA.out rA hsa hma).mono ?_; rw [h1]; rintro e w2 ⟨rfl, hb2⟩; obtain ⟨_, qb0, qb1⟩ := wB.below hb2 wB.lt hb2.size; obtain ⟨_, qa0, qa1⟩ := wA.below hb2 wA.lt hb2.size; rw [Nat.zero_add] at qa1 qb1)
    go_ret2
    rw [hR.out.1, hR.out.2]
    exact ⟨none, 0, rfl, ⟨rfl, .inl ⟨rfl, rfl⟩⟩, hb1.trans (hb2.mono hb1.size)⟩
  cases h2 : oneB xb fb
  · have hR := hid (apt_bad (xa := xa) (fa := fa) (xb := xb) (fb := fb) (by rw [h1, h2]; rfl))
    go_enter Try.func39, Try.ntmps39
    go_wp2_with fail
    rw [← hw1]
    clear hw1
    go_wp2_with (first | (go_at_call 58; with_reducible refine (sOne_any w.heap.size 0 xa aa na ca fa _ wA hxa HNA.out rA hsa hma).mono ?_; rw [h1]; rintro e w2 ⟨rfl, hb2⟩; obtain ⟨_, qb0, qb1⟩ := wB.below hb2 wB.lt hb2.size; obtain ⟨_, qa0, qa1⟩ := wA.below hb2 wA.lt hb2.size; rw [Nat.zero_add] at qa1 qb1) | (go_at_call 58; with_reducible refine (sOne_any (w.heap.size + 1) 0 xb ab nb cb fb _ (wB.below hb2 wB.lt hb2.size) hxb HNB.out (rd_below rB hb2) hsb hmb).mono ?_; rw [h2]; rintro e w3 ⟨rfl, hb3⟩; obtain ⟨_, va0, va1⟩ := wA.below (hb2.trans (hb3.mono hb2.size)) wA.lt (hb2.trans (hb3.mono hb2.size)).size; obtain ⟨_, vb0, vb1⟩ := wB.below (hb2.trans (hb3.mono hb2.size)) wB.lt (hb2.trans (hb3.mono hb2.size)).size; rw [Nat.zero_add] at va1 vb1))
    go_ret2
    rw [hR.out.1, hR.out.2]
    have hB2 := hb1.trans (hb2.mono hb1.size)
    exact ⟨none, 0, rfl, ⟨rfl, .inl ⟨rfl, rfl⟩⟩, hB2.trans (hb3.mono hB2.size)⟩
  have hR := hid (apt_ok (xa := xa) (fa := fa) (xb := xb) (fb := fb) (by rw [h1, h2]; rfl))
  have hoA := (oneB_get h1).1
  have hoB := (oneB_get h2).1
  go_enter Try.func39, Try.ntmps39
  go_wp2_with fail
  rw [← hw1]
  clear hw1
  go_wp2_with (first | (go_at_call 58; with_reducible refine (sOne_any w.heap.size 0 xa aa na ca fa _ wA hxa HNA.out rA hsa hma).mono ?_; rw [h1]; rintro e w2 ⟨rfl, hb2⟩; obtain ⟨_, qb0, qb1⟩ := wB.below hb2 wB.lt hb2.size; obtain ⟨_, qa0, qa1⟩ := wA.below hb2 wA.lt hb2.size; rw [Nat.zero_add] at qa1 qb1) | (go_at_call 58; with_reducible refine (sOne_any (w.heap.size + 1) 0 xb ab nb cb fb _ (wB.below hb2 wB.lt hb2.size) hxb HNB.out (rd_below rB hb2) hsb hmb).mono ?_; rw [h2]; rintro e w3 ⟨rfl, hb3⟩; obtain ⟨_, va0, va1⟩ := wA.below (hb2.trans (hb3.mono hb2.size)) wA.lt (hb2.trans (hb3.mono hb2.size)).size; obtain ⟨_, vb0, vb1⟩ := wB.below (hb2.trans (hb3.mono hb2.size)) wB.lt (hb2.trans (hb3.mono hb2.size)).size; rw [Nat.zero_add] at va1 vb1))
  have hb23 := hb2.trans (hb3.mono hb2.size)
  have hB3 := hb1.trans (hb23.mono hb1.size)
  have wA3 := wA.below hb23 wA.lt hb23.size
  have wB3 := wB.below hb23 wB.lt hb23.size
  refine (sApt_any w.heap.size 0 (w.heap.size + 1) 0 xa aa na ca fa xb ab nb cb fb _ wA3 wB3 HNA.out (rd_below rA hb23) hma hoA HNB.out (rd_below rB hb23) hmb hoB).mono ?_
  rintro e w4 ⟨g, c, rfl, hown, hb4⟩
  go_wp2_with fail
  go_ret2
  rw [hR.out.1, hR.out.2]
  exact ⟨some ⟨g, 0, none⟩, c, by rw [strs_len]; rfl, by rw [strs_len]; exact owns_mono hown hB3.size, hB3.trans (hb4.mono hB3.size)⟩
set_option maxRecDepth 100000 in
set_option maxHeartbeats 8000000 in
theorem letApart_any (xa : ByteArray) (aa : Option Addr) (na ca : Nat) (fa : List Se) (xb : ByteArray) (ab : Option Addr) (nb cb : Nat) (fb : List Se) (w : World) (hxa : xa.size ≤ maxLen) (hna : na = fa.length) (hra : Rd w aa (ses fa)) (hsa : seSmall fa) (hma : na ≤ 1048576)
    (hxb : xb.size ≤ maxLen) (hnb : nb = fb.length) (hrb : Rd w ab (ses fb)) (hsb : seSmall fb) (hmb : nb ≤ 1048576) :
    Calls Try.prog 40 #[.agg #[.string xa, .slice aa na ca], .agg #[.string xb, .slice ab nb cb]] w (RowRet w.heap.size 9 w (strs (aptL xa fa xb fb)) (aptC xa fa xb fb)) := by
  have HNA := hid hna
  have HNB := hid hnb
  clear hna hnb
  obtain ⟨w1, hw1⟩ : ∃ w1, w1 = (w.alloc (.cells #[.string xa, .slice aa na ca] 44)).alloc (.cells #[.string xb, .slice ab nb cb] 44) := ⟨_, rfl⟩
  have hb1 : Below w.heap.size w w1 := by
    rw [hw1]
    (repeat (first | with_reducible exact Below.refl _ _ | with_reducible assumption | refine Below.drew ?_ | refine below_drewN ?_ _ | (refine Below.alloc ?_ (by first | omega | (simp; done) | (simp; omega)) _) | (refine Below.setCell ?_ (by first | omega | (simp; done) | (simp; omega)) _) | (refine Below.trans ?_ (Below.mono (by assumption) (by first | omega | (simp; done) | (simp; omega))))))
  have wA : WrAt w1 w.heap.size 0 xa aa na ca := ⟨by rw [hw1]; simp; omega, by rw [hw1]; simp, by rw [hw1]; simp⟩
  have wB : WrAt w1 (w.heap.size + 1) 0 xb ab nb cb := ⟨by rw [hw1]; simp, by rw [hw1]; simp, by rw [hw1]; simp⟩
  have rA := rd_below hra hb1
  have rB := rd_below hrb hb1
  have pa0 := wA.c0
  have pa1 : w1.cell? ⟨w.heap.size, 1, none⟩ = some (.slice aa na ca) := wA.c1
  have pb0 := wB.c0
  have pb1 : w1.cell? ⟨w.heap.size + 1, 1, none⟩ = some (.slice ab nb cb) := wB.c1
  cases h1 : oneB xa fa
  · have hR := hid (apt_bad (xb := xb) (fb := fb) (by rw [h1]; rfl : (oneB xa fa && oneB xb fb) = false))
    go_enter Try.func40, Try.ntmps40
    go_wp2_with fail
    rw [← hw1]
    clear hw1
    go_wp2_with (go_at_call 56; refine (one_any xa aa na ca fa _ hxa HNA.out rA hsa hma).mono ?_; rw [h1]; rintro e w2 ⟨rfl, hb2⟩; obtain ⟨_, qb0, qb1⟩ := wB.below hb2 wB.lt hb2.size; obtain ⟨_, qa0, qa1⟩ := wA.below hb2 wA.lt hb2.size; rw [Nat.zero_add] at qa1 qb1)
    go_ret2
    rw [hR.out.1, hR.out.2]
    exact ⟨none, 0, rfl, ⟨rfl, .inl ⟨rfl, rfl⟩⟩, hb1.trans (hb2.mono hb1.size)⟩
  cases h2 : oneB xb fb
  · have hR := hid (apt_bad (xa := xa) (fa := fa) (xb := xb) (fb := fb) (by rw [h1, h2]; rfl))
    go_enter Try.func40, Try.ntmps40
    go_wp2_with fail
    rw [← hw1]
    clear hw1
    go_wp2_with (first | (go_at_call 56; with_reducible refine (one_any xa aa na ca fa _ hxa HNA.out rA hsa hma).mono ?_; rw [h1]; rintro e w2 ⟨rfl, hb2⟩; obtain ⟨_, qb0, qb1⟩ := wB.below hb2 wB.lt hb2.size; obtain ⟨_, qa0, qa1⟩ := wA.below hb2 wA.lt hb2.size; rw [Nat.zero_add] at qa1 qb1) | (go_at_call 56; with_reducible refine (one_any xb ab nb cb fb _ hxb HNB.out (rd_below rB hb2) hsb hmb).mono ?_; rw [h2]; rintro e w3 ⟨rfl, hb3⟩; obtain ⟨_, va0, va1⟩ := wA.below (hb2.trans (hb3.mono hb2.size)) wA.lt (hb2.trans (hb3.mono hb2.size)).size; obtain ⟨_, vb0, vb1⟩ := wB.below (hb2.trans (hb3.mono hb2.size)) wB.lt (hb2.trans (hb3.mono hb2.size)).size; rw [Nat.zero_add] at va1 vb1))
    go_ret2
    rw [hR.out.1, hR.out.2]
    have hB2 := hb1.trans (hb2.mono hb1.size)
    exact ⟨none, 0, rfl, ⟨rfl, .inl ⟨rfl, rfl⟩⟩, hB2.trans (hb3.mono hB2.size)⟩
  have hR := hid (apt_ok (xa := xa) (fa := fa) (xb := xb) (fb := fb) (by rw [h1, h2]; rfl))
  have hoA := (oneB_get h1).1
  have hoB := (oneB_get h2).1
  go_enter Try.func40, Try.ntmps40
  go_wp2_with fail
  rw [← hw1]
  clear hw1
  have hzv := zero256
  have hsv := store256
  have hzs := zb_size
  go_wp2_with (first | (go_at_call 56; with_reducible refine (one_any xa aa na ca fa _ hxa HNA.out rA hsa hma).mono ?_; rw [h1]; rintro e w2 ⟨rfl, hb2⟩; obtain ⟨_, qb0, qb1⟩ := wB.below hb2 wB.lt hb2.size; obtain ⟨_, qa0, qa1⟩ := wA.below hb2 wA.lt hb2.size; rw [Nat.zero_add] at qa1 qb1) | (go_at_call 56; with_reducible refine (one_any xb ab nb cb fb _ hxb HNB.out (rd_below rB hb2) hsb hmb).mono ?_; rw [h2]; rintro e w3 ⟨rfl, hb3⟩; obtain ⟨_, va0, va1⟩ := wA.below (hb2.trans (hb3.mono hb2.size)) wA.lt (hb2.trans (hb3.mono hb2.size)).size; obtain ⟨_, vb0, vb1⟩ := wB.below (hb2.trans (hb3.mono hb2.size)) wB.lt (hb2.trans (hb3.mono hb2.size)).size; rw [Nat.zero_add] at va1 vb1))
  clear hzv hsv hzs
  have hb23 := hb2.trans (hb3.mono hb2.size)
  have hB3 := hb1.trans (hb23.mono hb1.size)
  have hH0 := holds_new w3 w3.heap.size (Nat.le_refl _)
  have hb4 : Below w3.heap.size w3 (w3.alloc (.cells zb256 88)) := (Below.refl _ _).alloc (Nat.le_refl _) _
  have hA3 := rd_below rA hb23
  have hC3 := rd_below rB hb23
  have hfA : ∀ b o, aa = some ⟨b, o, none⟩ → Rd w3 aa (ses fa) → True := fun _ _ _ _ => trivial
  refine (apart_any w3.heap.size w3.heap.size noMk xa aa na ca fa xb ab nb cb fb _ HNA.out (rd_below hA3 hb4) hma hoA HNB.out (rd_below hC3 hb4) hmb hoB hH0 (rd_old hA3) (rd_old hC3)).mono ?_
  rintro e w5 ⟨rfl, hH5, hg5⟩
  have hb5 : Below w3.heap.size w3 w5 := hb4.grown hg5 (by simp) (fun k hk => by cases hk; exact Nat.le_refl _)
  have hB5 := hB3.trans (hb5.mono hB3.size)
  go_wp2_with fail
  refine (asc_any _ _ _ _ hH5).mono ?_
  rintro e w6 ⟨rfl, hb6⟩
  have hB6 := hB5.trans (hb6.mono hB5.size)
  go_wp2_with fail
  refine (letList_any _ _).mono ?_
  rintro e w7 ⟨g, c, rfl, hown, hb7⟩
  go_wp2_with fail
  go_ret2
  rw [hR.out.1, hR.out.2]
  exact ⟨some ⟨g, 0, none⟩, c, by rw [strs_len]; rfl, by rw [strs_len]; exact owns_mono hown hB6.size, hB6.trans (hb7.mono hB6.size)⟩
end Go.Proofs.Ythhpeanlpikjbaa
