/-
  The reference's choice of letters: what tells machines apart, and the walks of l15Tells and l15Choose.
-/
import Derived.Test.YthhpeanlpikjbaaFlA
import Derived.Test.YthhpeanlpikjbaaApt2
import Derived.Test.YthhpeanlpikjbaaWsV
namespace Go.Proofs.Ythhpeanlpikjbaa
open Go.RowKit Go.ChangeShapes Go.WideShapes Go.Maps
set_option linter.unusedVariables false
attribute [local go_sem ↓] Go.wp_at_zero Go.wp_at_succ

def fsK (l : List Ws) (i : Nat) : List Se := if h : i < l.length then l[i].fs else []
theorem fsK_get {l : List Ws} {i : Nat} (h : i < l.length) : fsK l i = l[i].fs := by unfold fsK; rw [dif_pos h]
def tellP (l : List Ws) (T : List ByteArray) (i k : Nat) : Bool := T.any fun s => difK (fsK l i) (fsK l k) s
def goodL (l : List Ws) (T : List ByteArray) : Bool := (List.range l.length).all fun i => (List.range i).all fun k => tellP l T i k
def TellTo (l : List Ws) (T : List ByteArray) (i : Nat) : Prop := ∀ a, a < i → ∀ b, b < a → tellP l T a b = true
theorem goodL_yes {l : List Ws} {T : List ByteArray} (h : TellTo l T l.length) : goodL l T = true := by
  unfold goodL
  rw [List.all_eq_true]
  intro i hi
  rw [List.all_eq_true]
  intro k hk
  exact h i (List.mem_range.1 hi) k (List.mem_range.1 hk)
theorem goodL_no {l : List Ws} {T : List ByteArray} {i k : Nat} (hi : i < l.length) (hk : k < i) (h : tellP l T i k = false) : goodL l T = false := by
  cases hg : goodL l T
  · rfl
  · unfold goodL at hg
    rw [List.all_eq_true] at hg
    have := hg i (List.mem_range.2 hi)
    rw [List.all_eq_true] at this
    rw [this k (List.mem_range.2 hk)] at h
    cases h
def tellN (fa fb : List Se) (T : List ByteArray) (t : Nat) : Bool := (T.take t).any fun s => difK fa fb s
theorem tellN_zero (fa fb : List Se) (T : List ByteArray) : tellN fa fb T 0 = false := by simp [tellN]
theorem tellN_succ {fa fb : List Se} {T : List ByteArray} {t : Nat} (h : t < T.length) : tellN fa fb T (t + 1) = (tellN fa fb T t || difK fa fb T[t]) := by
  unfold tellN
  rw [List.take_succ_eq_append_getElem h, List.any_append]
  simp
theorem tellN_all (fa fb : List Se) (T : List ByteArray) : tellN fa fb T T.length = T.any fun s => difK fa fb s := by unfold tellN; rw [List.take_length]
theorem rd_strs {w : World} {ao : Option Addr} {l : List ByteArray} (h : Rd w ao (strs l)) : l = [] ∨ ∃ b o, ao = some ⟨b, o, none⟩ ∧ b < w.heap.size ∧ ∀ j (hj : j < l.length), w.cell? ⟨b, o + j, none⟩ = some (.string l[j]) := by
  rcases h with h | ⟨b, o, h1, h2, h3⟩
  · left
    have := congrArg List.length h
    rw [strs_len] at this
    exact List.eq_nil_of_length_eq_zero (by simpa using this)
  · right
    refine ⟨b, o, h1, h2, fun j hj => ?_⟩
    have hlt : j < (strs l).length := by rw [strs_len]; exact hj
    rw [h3 j hlt, strs_get]
theorem wsAt {w w' : World} {b o : Nat} {x : Ws} (h : WsCells w b o x) (hb : Below w.heap.size w w') (hl : b < w.heap.size) : WrAt w' b o x.nm x.ao x.fs.length x.cap :=
  ⟨Nat.lt_of_lt_of_le hl hb.size, (hb.cell (p := ⟨b, o, none⟩) hl).trans h.c0, (hb.cell (p := ⟨b, o + 1, none⟩) hl).trans h.c1⟩

set_option maxRecDepth 100000 in
set_option maxHeartbeats 8000000 in
theorem tells_any (ao : Option Addr) (n cap : Nat) (l : List Ws) (tp : Option Addr) (nt tc : Nat) (T : List ByteArray) (w : World) (ha : WsArg w ao n cap l) (hs : WsSmall l) (hnt : nt = T.length) (hm : nt ≤ 1000) (hrt : Rd w tp (strs T)) :
    Calls Try.prog 85 #[.slice ao n cap, .slice tp nt tc] w fun e w' => e = .returned (.bool (goodL l T)) ∧ Below w.heap.size w w' := by
  obtain ⟨hn, _, hr, hg⟩ := ha
  have HN := hid hn
  have HNT := hid hnt
  have HS := hid hs.2
  have HG := hid hg
  have hnm : n ≤ 1048576 := by rw [hn]; exact hs.1
  have hrd := rd_ws hr
  have hrT := rd_strs hrt
  have hyes := hid (fun h => goodL_yes (l := l) (T := T) h)
  have hnot := hid (fun i k hi hk h => goodL_no (l := l) (T := T) (i := i) (k := k) hi hk h)
  clear hn hr hs hg hnt hrt
  go_enter Try.func85, Try.ntmps85
  go_wp2_with fail
  go_loopw [5, 6, 7, 8] (fun i _ _ _ wr => ∃ k : Nat, k ≤ n ∧ i = .int .i64 k ∧ Hid (TellTo l T k) ∧ Below w.heap.size w wr) (fun i _ _ _ _ => n - (intOf i).toNat)
  case atStart => exact ⟨0, Nat.zero_le _, rfl, hid (fun a ha => absurd ha (Nat.not_lt_zero a)), Below.refl _ _⟩
  case round =>
    obtain ⟨i, hik, rfl, hto, hB⟩ := hrel
    by_cases hlt : i < n
    · rcases hrd with hnil | ⟨b, o, rfl, hl1, hcell⟩
      · exact absurd (by rw [HN.out, hnil]; rfl : n = 0) (by omega)
      have hia : i < l.length := by rw [← HN.out]; exact hlt
      have hi0 : (0 : Int) ≤ (i : Int) := by omega
      have hin : (i : Int) < (n : Int) := by omega
      go_wp2_with fail
      go_loopw [6, 7, 8] (fun v _ _ wi => ∃ k : Nat, k ≤ i ∧ v = .int .i64 k ∧ Hid (∀ b, b < k → tellP l T i b = true) ∧ Below w.heap.size w wi) (fun v _ _ _ => i - (intOf v).toNat)
      case atStart => exact ⟨0, Nat.zero_le _, rfl, hid (fun a ha => absurd ha (Nat.not_lt_zero a)), hB⟩
      case round =>
        clear hB
        obtain ⟨k, hki, rfl, htk, hB⟩ := hrel
        by_cases hkt : k < i
        · have hka : k < l.length := by omega
          have hk0 : (0 : Int) ≤ (k : Int) := by omega
          have hkn : (k : Int) < (n : Int) := by omega
          have hki2 : (k : Int) < (i : Int) := by omega
          have hti := hid (show tellP l T i k = tellN l[i].fs l[k].fs T T.length by unfold tellP; rw [tellN_all, fsK_get hia, fsK_get hka])
          have WAC := hid (hcell i hia)
          have WBC := hid (hcell k hka)
          have RA0 := hid (HG.out _ (List.getElem_mem hia)).rd
          have RB0 := hid (HG.out _ (List.getElem_mem hka)).rd
          have hma := (HS.out _ (List.getElem_mem hia)).2
          have hmb := (HS.out _ (List.getElem_mem hka)).2
          obtain ⟨x, hx⟩ : ∃ x, x = l[i] := ⟨_, rfl⟩
          obtain ⟨y, hy⟩ : ∃ y, y = l[k] := ⟨_, rfl⟩
          rw [← hx] at WAC RA0 hma hti
          rw [← hy] at WBC RB0 hmb hti
          clear hx hy hcell
          obtain ⟨xa, pa, ca, fa⟩ := x
          obtain ⟨xb, pb, cb, fb⟩ := y
          dsimp only at RA0 RB0 hma hmb hti
          have hz := tellN_zero fa fb T
          go_wp2_with fail
          go_loopw [7, 8] (fun d v wi => ∃ t : Nat, t ≤ nt ∧ v = .int .i64 t ∧ d = .bool (tellN fa fb T t) ∧ Below w.heap.size w wi) (fun _ v _ => nt - (intOf v).toNat)
          case atStart => exact ⟨0, Nat.zero_le _, rfl, by rw [hz], hB⟩
          case round =>
            clear hB
            obtain ⟨t, htn, rfl, rfl, hB⟩ := hrel
            by_cases htt : t < nt
            · rcases hrT with hnil | ⟨bt, ot, rfl, hlt2, hct⟩
              · exact absurd (by rw [HNT.out, hnil]; rfl : nt = 0) (by omega)
              have hta : t < T.length := by rw [← HNT.out]; exact htt
              have ht0 : (0 : Int) ≤ (t : Int) := by omega
              have htm : (t : Int) < (nt : Int) := by omega
              have g1 := (hB.cell (p := ⟨bt, ot + t, none⟩) hlt2).trans (hct t hta)
              have hsu := hid (tellN_succ (fa := fa) (fb := fb) hta)
              clear hct
              obtain ⟨z, hz2⟩ : ∃ z, z = T[t] := ⟨_, rfl⟩
              rw [← hz2] at g1 hsu
              clear hz2
              obtain ⟨d, hd⟩ : ∃ d, d = tellN fa fb T t := ⟨_, rfl⟩
              rw [← hd] at hsu ⊢
              clear hd hta
              cases d
              · have WA := wsAt WAC.out hB hl1
                have WB := wsAt WBC.out hB hl1
                dsimp only at WA WB
                obtain ⟨na, hna⟩ : ∃ m, m = fa.length := ⟨_, rfl⟩
                obtain ⟨nb, hnb⟩ : ∃ m, m = fb.length := ⟨_, rfl⟩
                rw [← hna] at WA hma
                rw [← hnb] at WB hmb
                have HNA := hid hna
                have HNB := hid hnb
                clear hna hnb
                have RA := hid (rd_below RA0.out hB)
                have RB := hid (rd_below RB0.out hB)
                obtain ⟨ka, hka2⟩ : ∃ r, r = kindI fa z := ⟨_, rfl⟩
                obtain ⟨kb, hkb2⟩ : ∃ r, r = kindI fb z := ⟨_, rfl⟩
                have KA := hid hka2.symm
                have KB := hid hkb2.symm
                obtain ⟨wa0, wa1, wa2⟩ := id WA
                obtain ⟨wb0, wb1, wb2⟩ := id WB
                by_cases hk : ka = kb
                · have hn1 := hid (show tellN fa fb T (t + 1) = false by rw [hsu.out, difK_no (by rw [← hka2, ← hkb2]; exact hk)]; rfl)
                  have e1 := neI_false hk
                  clear hk hka2 hkb2
                  go_wp2_with fail
                  go_quiet ((first | (go_at_call 60; with_reducible exact qs (sOf_b b (o + i * 2) xa pa na ca fa z _ (wrAtDrew WA _) HNA.out (rd_drewN RA.out _) hma KA.out)) | (go_at_call 60; with_reducible exact qs (sOf_b b (o + k * 2) xb pb nb cb fb z _ (wrAtDrew WB _) HNB.out (rd_drewN RB.out _) hmb KB.out))))
                  go_wp2_with fail
                  go_roundw
                  case rel => exact ⟨t + 1, by omega, by go_num, by rw [hn1.out], below_drewN hB _⟩
                  case measure => simp [intOf]; omega
                · have hn1 := hid (show tellN fa fb T (t + 1) = true by rw [hsu.out, difK_yes (by rw [← hka2, ← hkb2]; exact hk)]; rfl)
                  have e1 := neI_true hk
                  clear hk hka2 hkb2
                  go_wp2_with fail
                  go_quiet ((first | (go_at_call 60; with_reducible exact qs (sOf_b b (o + i * 2) xa pa na ca fa z _ (wrAtDrew WA _) HNA.out (rd_drewN RA.out _) hma KA.out)) | (go_at_call 60; with_reducible exact qs (sOf_b b (o + k * 2) xb pb nb cb fb z _ (wrAtDrew WB _) HNB.out (rd_drewN RB.out _) hmb KB.out))))
                  go_wp2_with fail
                  go_roundw
                  case rel => exact ⟨t + 1, by omega, by go_num, by rw [hn1.out], below_drewN hB _⟩
                  case measure => simp [intOf]; omega
              · have hn1 := hid (show tellN fa fb T (t + 1) = true by rw [hsu.out]; rfl)
                go_wp2_with fail
                go_quiet (fail)
                go_wp2_with fail
                go_roundw
                case rel => exact ⟨t + 1, by omega, by go_num, by rw [hn1.out], below_drewN hB _⟩
                case measure => simp [intOf]; omega
            · have htn2 : nt = t := by omega
              subst htn2
              rw [← HNT.out] at hti
              obtain ⟨d, hd⟩ : ∃ d, d = tellN fa fb T nt := ⟨_, rfl⟩
              rw [← hd] at hti ⊢
              clear hd
              cases d
              · have hR := hid (hnot.out i k hia hkt hti.out)
                go_wp2_with fail
                go_ret
                exact ⟨ret_bool hR.out.symm, hB⟩
              · have htk2 := hid (show ∀ b, b < k + 1 → tellP l T i b = true from fun q hq => by
                  rcases Nat.lt_or_ge q k with h | h
                  · exact htk.out q h
                  · obtain rfl : q = k := by omega
                    exact hti.out)
                go_wp2_with fail
                go_roundw
                case rel => exact ⟨k + 1, by omega, by go_num, htk2, hB⟩
                case measure => simp [intOf]; omega
        · obtain rfl : k = i := by omega
          have hto2 := hid (show TellTo l T (k + 1) from fun a ha q hq => by
            rcases Nat.lt_or_ge a k with h | h
            · exact hto.out a h q hq
            · obtain rfl : a = k := by omega
              exact htk.out q hq)
          go_wp2_with fail
          go_roundw
          case rel => exact ⟨k + 1, by omega, by go_num, hto2, hB⟩
          case measure => simp [intOf]; omega
    · have hn2 : n = i := by omega
      subst hn2
      have hR := hid (hyes.out (by rw [← HN.out]; exact hto.out))
      go_wp2_with fail
      go_ret
      exact ⟨ret_bool hR.out.symm, hB⟩
end Go.Proofs.Ythhpeanlpikjbaa
