/-
  The walk of the reference's l15Put for any texts: a text put into its place among texts, once.
-/
import Derived.Test.YtnjdoedhhpkjhaaSlS
import Derived.Test.YtnjdoedhhpkjhaaFind
import Derived.Test.YtnjdoedhhpkjhaaAppend
namespace Go.Proofs.Ytnjdoedhhpkjhaa
open Go.RowKit Go.ChangeShapes Go.WideShapes Go.Maps
set_option linter.unusedVariables false
attribute [local go_sem ↓] Go.wp_at_zero Go.wp_at_succ

theorem Try.infoStrP : (Try.prog.info? 9).map (fun i => (i.zero, i.size, i.bytes)) = some (some (.string ByteArray.empty), 1, 16) := by kernel_rfl
theorem src_one (w : World) (x : ByteArray) (t : TypeId) : SrcOk (w.alloc (.cells #[.string x] t)) 1 (.slice (some ⟨w.heap.size, 0, none⟩) 1 1) 1 [.string x] :=
  .inr ⟨_, _, rfl, rfl, one_new _ _ _, one_okS _⟩
theorem adds (b o j : Nat) : (⟨b, o, none⟩ : Addr).add j = ⟨b, o + j, none⟩ := by
  by_cases h0 : j = 0
  · subst h0; simp [Addr.add]
  · simp [Addr.add, h0]
theorem take_len {l : List ByteArray} {k : Nat} (hk : k ≤ l.length) : (strs (l.take k)).length = k * 1 := by simp [strs]; omega
theorem take_news {W : World} {b o k : Nat} {l : List ByteArray} (h : ∀ j (hj : j < l.length), W.cell? ⟨b, o + j, none⟩ = some (.string l[j])) (hk : k ≤ l.length) : ∀ j u, (strs (l.take k))[j]? = some u → W.cell? ((⟨b, o, none⟩ : Addr).add j) = some u := by
  intro j u hj
  rw [adds]
  have hjl : j < (strs (l.take k)).length := by
    rcases Nat.lt_or_ge j (strs (l.take k)).length with h1 | h1
    · exact h1
    · rw [List.getElem?_eq_none h1] at hj; cases hj
  rw [List.getElem?_eq_getElem hjl] at hj
  have hjk : j < k := by simp [strs] at hjl; omega
  rw [h j (by omega), ← Option.some.inj hj]
  simp [strs]
theorem strs_one (l : List ByteArray) : ∀ u ∈ strs l, u.oneCell' = true := fun u hu => by obtain ⟨x, _, rfl⟩ := List.mem_map.1 hu; rfl
theorem src_dropS {W : World} {b o k n cap : Nat} {l : List ByteArray} (h : ∀ j (hj : j < l.length), W.cell? ⟨b, o + j, none⟩ = some (.string l[j])) (hn : n = l.length) (hk : k ≤ n) (hc : n ≤ cap) : SrcOk W 1 (.slice (if cap = k then some ⟨b, o, none⟩ else some ⟨b, o + k, none⟩) (n - k) (cap - k)) (n - k) (strs (l.drop k)) := by
  have hlen : (strs (l.drop k)).length = (n - k) * 1 := by simp [strs]; omega
  have h1 : ∀ u ∈ strs (l.drop k), u.oneCell' = true := fun u hu => by obtain ⟨x, _, rfl⟩ := List.mem_map.1 hu; rfl
  by_cases he : cap = k
  · rw [if_pos he]
    refine .inr ⟨_, _, rfl, hlen, fun j u hj => ?_, h1⟩
    have : (strs (l.drop k)).length = 0 := by rw [hlen]; omega
    rw [List.getElem?_eq_none (by omega)] at hj
    cases hj
  · rw [if_neg he]
    refine .inr ⟨_, _, rfl, hlen, fun j u hj => ?_, h1⟩
    rw [adds]
    have hjl : j < (strs (l.drop k)).length := by
      rcases Nat.lt_or_ge j (strs (l.drop k)).length with h2 | h2
      · exact h2
      · rw [List.getElem?_eq_none h2] at hj; cases hj
    rw [List.getElem?_eq_getElem hjl] at hj
    rw [Nat.add_assoc, h (k + j) (by simp [strs] at hjl; omega), ← hj]
    simp [strs]
theorem owns_lit (w : World) (E : TypeId) (B : Nat) (hB : B ≤ w.heap.size) : (w.alloc (.cells #[] E)).ownsRow B E 1 (.slice (some ⟨w.heap.size, 0, none⟩) 0 0) 0 [] := by
  have h := World.ownsRow_made (e := E) (size := 1) (base := B) w #[] 0 hB (by unfold maxLen; omega) rfl
  simpa using h
/-- one result, a slice of texts that is not nil, of the call's own -/
def PutRet (B : Nat) (w : World) (L : List ByteArray) (e : Ending) (w' : World) : Prop :=
  ∃ g c, e = .returned (.slice (some ⟨g, 0, none⟩) L.length c) ∧ w'.ownsRow B 9 1 (.slice (some ⟨g, 0, none⟩) L.length c) L.length (strs L) ∧ Below w.heap.size w w'

theorem ext_tl {a b : ByteArray} (h : a.toList = b.toList) : a = b := by
  rw [ByteArray.toList_eq, ByteArray.toList_eq] at h
  cases a; cases b
  simp only [ByteArray.mk.injEq]
  exact Array.toList_inj.1 h
/-- does the search stop at place k? -/
def stopP (L : List ByteArray) (T : ByteArray) (k : Nat) : Bool := if h : k < L.length then !(Op.bytesLess L[k].toList T.toList) else false
theorem stopP_get {L : List ByteArray} {T : ByteArray} {k : Nat} (h : k < L.length) : stopP L T k = !(Op.bytesLess L[k].toList T.toList) := by unfold stopP; rw [dif_pos h]
def placeP (L : List ByteArray) (T : ByteArray) : Nat := (firstAt (stopP L T) L.length).getD L.length
/-- the texts with one more, in its place, once -/
def insP (L : List ByteArray) (T : ByteArray) : List ByteArray := if h : placeP L T < L.length then (if L[placeP L T].toList == T.toList then L else L.take (placeP L T) ++ [T] ++ L.drop (placeP L T)) else L ++ [T]
theorem insP_same {L : List ByteArray} {T : ByteArray} {k : Nat} (hk : k < L.length) (hN : NoneUpTo (stopP L T) k) (hs : Op.bytesLess L[k].toList T.toList = false) (he : (L[k].toList == T.toList) = true) : insP L T = L := by
  have hp : placeP L T = k := by unfold placeP; rw [first_hit hN (by rw [stopP_get hk, hs]; rfl) hk]; rfl
  unfold insP
  simp only [hp, hk, dif_pos, he, if_true]
theorem insP_at {L : List ByteArray} {T : ByteArray} {k : Nat} (hk : k < L.length) (hN : NoneUpTo (stopP L T) k) (hs : Op.bytesLess L[k].toList T.toList = false) (he : (L[k].toList == T.toList) = false) : L.take k ++ [T] ++ L.drop k = insP L T := by
  have hp : placeP L T = k := by unfold placeP; rw [first_hit hN (by rw [stopP_get hk, hs]; rfl) hk]; rfl
  unfold insP
  simp only [hp, hk, dif_pos, he, Bool.false_eq_true, if_false]
theorem insP_end {L : List ByteArray} {T : ByteArray} (hN : NoneUpTo (stopP L T) L.length) : L.take L.length ++ [T] ++ L.drop L.length = insP L T := by
  have hp : placeP L T = L.length := by unfold placeP; rw [first_none hN]; rfl
  unfold insP
  rw [dif_neg (by omega)]
  simp
theorem insP_len (L : List ByteArray) (T : ByteArray) : (insP L T).length ≤ L.length + 1 := by
  unfold insP
  split
  · split
    · omega
    · simp; omega
  · simp

set_option maxRecDepth 100000 in
set_option maxHeartbeats 4000000 in
theorem sPutG_any (B g cap : Nat) (L : List ByteArray) (T : ByteArray) (w : World) (hB : B ≤ w.heap.size) (hn256 : L.length ≤ 10000) (hown : w.ownsRow B 9 1 (.slice (some ⟨g, 0, none⟩) L.length cap) L.length (strs L)) :
    Calls Try.prog 43 #[.slice (some ⟨g, 0, none⟩) L.length cap, .string T] w (PutRet B w (insP L T)) := by
  obtain ⟨i0, hi, iz0, iz1, iz2⟩ := info_parts Try.infoStrP
  have hgl := (hown.lt g rfl).2
  have hcap : L.length ≤ cap := by
    rcases owns_form hown with ⟨h1, _⟩ | ⟨g1, c1, h1, _, _, h2, _⟩
    · simp at h1
    · simp at h1; rw [h1.2]; exact h2
  have hcm : cap ≤ maxLen := by
    rcases owns_form hown with ⟨h1, _⟩ | ⟨g1, c1, h1, _, _, _, h2⟩
    · simp at h1
    · simp at h1; rw [h1.2]; exact h2
  unfold maxLen at hcm
  have hcell := hid (fun j (hj : j < L.length) => (by rw [Nat.zero_add, hown.cellAt j (by omega), List.getElem?_eq_getElem (by rw [strs_len]; exact hj), strs_get] : w.cell? ⟨g, 0 + j, none⟩ = some (.string L[j])))
  have hput := hid (fun k hk hN hs he => insP_at (L := L) (T := T) (k := k) hk hN hs he)
  have hend := hid (fun hN => insP_end (L := L) (T := T) hN)
  have hsame := hid (fun k hk hN hs he => insP_same (L := L) (T := T) (k := k) hk hN hs he)
  have hstop := hid (fun k (hk : k < L.length) => stopP_get (T := T) hk)
  have HOWN := hid hown
  have hlit := owns_lit w 9 w.heap.size (Nat.le_refl _)
  have hB0 : Below w.heap.size w (w.alloc (.cells #[] 9)) := (Below.refl _ _).alloc (Nat.le_refl _) _
  clear hown
  obtain ⟨R, hR⟩ : ∃ R, R = insP L T := ⟨_, rfl⟩
  rw [← hR] at hput hend hsame
  rw [← hR]
  clear hR
  obtain ⟨n, hn⟩ : ∃ n, n = L.length := ⟨_, rfl⟩
  have HN := hid hn
  rw [← hn] at hcap hn256 HOWN
  rw [← hn]
  clear hn
  go_enter Try.func43, Try.ntmps43
  go_wp2_with fail
  go_loopw [5] (fun i wr => ∃ k : Nat, k ≤ n ∧ i = .int .i64 k ∧ Hid (NoneUpTo (stopP L T) k) ∧ w = wr) (fun i _ => n - (intOf i).toNat)
  case atStart => exact ⟨0, Nat.zero_le _, rfl, hid (none_zero _), rfl⟩
  case round =>
    obtain ⟨k, hk, rfl, hlo, rfl⟩ := hrel
    have hk0 : (0 : Int) ≤ (k : Int) := by omega
    have hkc : (k : Int) ≤ (cap : Int) := by omega
    have hkc2 : k ≤ cap := by omega
    by_cases hlt : k < n
    · have hkn : (k : Int) < (n : Int) := by omega
      have hkL : k < L.length := by rw [← HN.out]; exact hlt
      have g1 := hcell.out k hkL
      rw [Nat.zero_add] at g1
      have hst := hid (hstop.out k hkL)
      have hsm := hid (fun hs he => hsame.out k hkL hlo.out hs he)
      have hpt := hid (fun hs he => hput.out k hkL hlo.out hs he)
      obtain ⟨z, hz⟩ : ∃ z, z = L[k] := ⟨_, rfl⟩
      rw [← hz] at g1 hst hsm hpt
      clear hz
      cases hle : Op.bytesLess z.toList T.toList
      case true =>
        have hnx := hid (none_next hlo.out (by rw [hst.out, hle]; rfl))
        go_wp2_with fail
        go_roundw
        case rel => exact ⟨k + 1, by omega, by go_num, hnx, by trivial⟩
        case measure => simp [intOf]; omega
      cases hqe : (z.toList == T.toList)
      case true =>
        have hRL := hid (hsm.out hle hqe)
        go_wp2_with fail
        go_ret
        rw [hRL.out]
        exact ⟨g, cap, by rw [← HN.out]; rfl, by rw [← HN.out]; exact HOWN.out, Below.refl _ _⟩
      have hr := hid (hpt.out hle hqe)
      have hs1 := hid (take_news (fun j hj => (hB0.cell (p := ⟨g, 0 + j, none⟩) hgl).trans (hcell.out j hj)) (by omega : k ≤ L.length))
      clear hput hsame hend hstop
      go_wp2_with (first | (at_builtin; refine wpList_append_own _ rfl _ _ 34 rfl w.heap.size 9 i0 (.string ByteArray.empty) 1 16 Try.underlying34 hi iz0 iz1 iz2 rfl (by decide) (.slice (some ⟨w.heap.size, 0, none⟩) 0 0) 0 [] rfl hlit ⟨g, 0, none⟩ k cap (strs (L.take k)) rfl (take_len (by rw [← HN.out]; omega)) hs1.out (strs_one _) (by unfold maxLen; omega) (by omega) (by simp) ?_; intro v1 w3 ho3 hg3 hni3; have hB3 : Below w.heap.size w w3 := below_grown hB0 (by simp) hlit hg3; rw [Nat.zero_add, List.nil_append] at ho3; have hz3 := hB3.size; rcases owns_form ho3 with ⟨hv1, _⟩ | ⟨g3, c3, rfl, _⟩; (exact absurd (hni3.1 hv1).1 (by simp))) | (at_builtin; refine wpList_append_src rfl _ _ 34 rfl w.heap.size 9 i0 (.string ByteArray.empty) 1 16 Try.underlying34 hi iz0 iz1 iz2 rfl (by decide) (.slice (some ⟨g3, 0, none⟩) k c3) k (strs (L.take k)) rfl (ho3.alloc _) _ 1 [.string T] rfl (src_one _ _ _) (by unfold maxLen; omega) (by omega) (by simp; omega) ?_; intro v2 w4 ho4 hg4; have hB4 : Below w.heap.size w w4 := below_grown (hB3.alloc hz3 _) (by simp; omega) (ho3.alloc _) hg4; have hz4 := hB4.size; rcases owns_form ho4 with ⟨_, h04, _⟩ | ⟨g4, c4, rfl, _⟩; (exfalso; omega); have hs3 := hid (src_dropS (n := n) (k := k) (cap := cap) (fun j hj => (hB4.cell (p := ⟨g, 0 + j, none⟩) hgl).trans (hcell.out j hj)) HN.out (by omega) hcap)) | (at_builtin; refine wpList_append_src rfl _ _ 34 rfl w.heap.size 9 i0 (.string ByteArray.empty) 1 16 Try.underlying34 hi iz0 iz1 iz2 rfl (by decide) (.slice (some ⟨g4, 0, none⟩) (k + 1) c4) (k + 1) (strs (L.take k) ++ [.string T]) rfl ho4 _ (n - k) (strs (L.drop k)) rfl (by have h3 := hs3.out; first | exact h3 | (rw [if_neg (by omega), Nat.zero_add] at h3; exact h3) | (rw [Nat.zero_add] at h3; exact h3) | (rw [Nat.zero_add, Nat.sub_self] at h3; simpa using h3) | simpa using h3) (by unfold maxLen; omega) (by omega) (by omega) ?_; intro v3 w5 ho5 hg5; have hB5 : Below w.heap.size w w5 := below_grown hB4 hz4 ho4 hg5))
      go_ret
      have hlen : R.length = k + 1 + (n - k) := by rw [← hr.out]; simp; rw [← HN.out]; omega
      have hls : strs (L.take k) ++ [.string T] ++ strs (L.drop k) = strs R := by rw [← hr.out]; simp [strs]
      rw [hls, ← hlen] at ho5
      rcases owns_form ho5 with ⟨_, h0, _⟩ | ⟨g5, c5, rfl, _⟩
      · omega
      exact ⟨g5, c5, rfl, owns_mono ho5 hB, hB5⟩
    · obtain rfl : k = n := by omega
      have hr := hid (show L.take k ++ [T] ++ L.drop k = R by rw [HN.out]; exact hend.out (by rw [← HN.out]; exact hlo.out))
      have hs1 := hid (take_news (fun j hj => (hB0.cell (p := ⟨g, 0 + j, none⟩) hgl).trans (hcell.out j hj)) (by rw [← HN.out]; omega : k ≤ L.length))
      clear hput hsame hend hstop
      go_wp2_with (first | (at_builtin; refine wpList_append_own _ rfl _ _ 34 rfl w.heap.size 9 i0 (.string ByteArray.empty) 1 16 Try.underlying34 hi iz0 iz1 iz2 rfl (by decide) (.slice (some ⟨w.heap.size, 0, none⟩) 0 0) 0 [] rfl hlit ⟨g, 0, none⟩ k cap (strs (L.take k)) rfl (take_len (by rw [← HN.out]; omega)) hs1.out (strs_one _) (by unfold maxLen; omega) (by omega) (by simp) ?_; intro v1 w3 ho3 hg3 hni3; have hB3 : Below w.heap.size w w3 := below_grown hB0 (by simp) hlit hg3; rw [Nat.zero_add, List.nil_append] at ho3; have hz3 := hB3.size; rcases owns_form ho3 with ⟨hv1, _⟩ | ⟨g3, c3, rfl, _⟩; (exact absurd (hni3.1 hv1).1 (by simp))) | (at_builtin; refine wpList_append_src rfl _ _ 34 rfl w.heap.size 9 i0 (.string ByteArray.empty) 1 16 Try.underlying34 hi iz0 iz1 iz2 rfl (by decide) (.slice (some ⟨g3, 0, none⟩) k c3) k (strs (L.take k)) rfl (ho3.alloc _) _ 1 [.string T] rfl (src_one _ _ _) (by unfold maxLen; omega) (by omega) (by simp; omega) ?_; intro v2 w4 ho4 hg4; have hB4 : Below w.heap.size w w4 := below_grown (hB3.alloc hz3 _) (by simp; omega) (ho3.alloc _) hg4; have hz4 := hB4.size; rcases owns_form ho4 with ⟨_, h04, _⟩ | ⟨g4, c4, rfl, _⟩; (exfalso; omega); have hs3 := hid (src_dropS (n := k) (k := k) (cap := cap) (fun j hj => (hB4.cell (p := ⟨g, 0 + j, none⟩) hgl).trans (hcell.out j hj)) HN.out (by omega) hcap)) | (at_builtin; refine wpList_append_src rfl _ _ 34 rfl w.heap.size 9 i0 (.string ByteArray.empty) 1 16 Try.underlying34 hi iz0 iz1 iz2 rfl (by decide) (.slice (some ⟨g4, 0, none⟩) (k + 1) c4) (k + 1) (strs (L.take k) ++ [.string T]) rfl ho4 _ 0 (strs (L.drop k)) rfl (by have h3 := hs3.out; first | exact h3 | (rw [if_neg (by omega), Nat.zero_add] at h3; exact h3) | (rw [Nat.zero_add] at h3; exact h3) | (rw [Nat.zero_add, Nat.sub_self] at h3; exact h3) | simpa using h3) (by unfold maxLen; omega) (by omega) (by omega) ?_; intro v3 w5 ho5 hg5; have hB5 : Below w.heap.size w w5 := below_grown hB4 hz4 ho4 hg5))
      all_goals (
        go_ret
        have hlen : R.length = k + 1 + 0 := by rw [← hr.out]; simp; rw [← HN.out]; omega
        have hls : strs (L.take k) ++ [.string T] ++ strs (L.drop k) = strs R := by rw [← hr.out]; simp [strs]
        rw [hls, ← hlen] at ho5
        rcases owns_form ho5 with ⟨_, h0, _⟩ | ⟨g5, c5, rfl, _⟩
        · omega
        exact ⟨g5, c5, rfl, owns_mono ho5 hB, hB5⟩)
end Go.Proofs.Ytnjdoedhhpkjhaa
