/-
  Walks: a letter is put into its place (spec.l15Put); the bytes of a text as letters (impl.letterList).
-/
import Derived.Test.YthhpeanlpikjbaaAsc
import Derived.Test.YthhpeanlpikjbaaAppend
namespace Go.Proofs.Ythhpeanlpikjbaa
open Go.RowKit Go.ChangeShapes Go.WideShapes
set_option linter.unusedVariables false
attribute [local go_sem ↓] Go.wp_at_zero Go.wp_at_succ

theorem Try.infoStrP : (Try.prog.info? 9).map (fun i => (i.zero, i.size, i.bytes)) = some (some (.string ByteArray.empty), 1, 16) := by kernel_rfl
theorem less_one {a c : Nat} (ha : a < 256) (hc : c < 256) : Op.bytesLess (oneT a).toList (oneT c).toList = decide (a < c) := by
  rw [oneT_list, oneT_list]
  simp only [Op.bytesLess, Bool.and_false, Bool.or_false]
  have h1 : (UInt8.ofNat a < UInt8.ofNat c) ↔ a < c := by rw [UInt8.lt_iff_toNat_lt, toNat_of ha, toNat_of hc]
  by_cases h : a < c
  · rw [decide_eq_true (h1.2 h), decide_eq_true h]
  · rw [decide_eq_false (fun g => h (h1.1 g)), decide_eq_false h]
theorem letL_put {ms : List Bool} {c k : Nat} (hl : ms.length = 256) (hc : c < 256) (hlo : ∀ x ∈ (bytesOf ms).take k, x < c) (hhi : ∀ x ∈ (bytesOf ms).drop k, c < x) :
    (letL ms).take k ++ [oneT c] ++ (letL ms).drop k = letL (ms.set c true) := by
  have h := bytes_put hl hc hlo hhi
  unfold letL
  rw [← h]
  simp
theorem letL_le (ms : List Bool) : (letL ms).length ≤ 256 := by rw [letL_len]; exact bytes_len ms
theorem src_one (w : World) (x : ByteArray) (t : TypeId) : SrcOk (w.alloc (.cells #[.string x] t)) 1 (.slice (some ⟨w.heap.size, 0, none⟩) 1 1) 1 [.string x] :=
  .inr ⟨_, _, rfl, rfl, one_new _ _ _, one_okS _⟩
theorem adds (b o j : Nat) : (⟨b, o, none⟩ : Addr).add j = ⟨b, o + j, none⟩ := by
  by_cases h0 : j = 0
  · subst h0; simp [Addr.add]
  · simp [Addr.add, h0]
theorem take_len {l : List ByteArray} {k : Nat} (hk : k ≤ l.length) : (strs (l.take k)).length = k * 1 := by simp [strs]; omega
theorem take_news {W : World} {b o k : Nat} {l : List ByteArray} (h : ∀ j (hj : j < l.length), W.cell? ⟨b, o + j, none⟩ = some (.string l[j])) (hk : k ≤ l.length) : ∀ j u, (strs (l.take k))[j]? = some u → W.cell? ((⟨b, o, none⟩ : Addr).add j) = some u := by
  intro j u hj
  rw [adds]
  have hjl : j < (strs (l.take k)).length := by
    rcases Nat.lt_or_ge j (strs (l.take k)).length with h1 | h1
    · exact h1
    · rw [List.getElem?_eq_none h1] at hj; cases hj
  rw [List.getElem?_eq_getElem hjl] at hj
  have hjk : j < k := by simp [strs] at hjl; omega
  rw [h j (by omega), ← Option.some.inj hj]
  simp [strs]
theorem strs_one (l : List ByteArray) : ∀ u ∈ strs l, u.oneCell' = true := fun u hu => by obtain ⟨x, _, rfl⟩ := List.mem_map.1 hu; rfl
theorem src_dropS {W : World} {b o k n cap : Nat} {l : List ByteArray} (h : ∀ j (hj : j < l.length), W.cell? ⟨b, o + j, none⟩ = some (.string l[j])) (hn : n = l.length) (hk : k ≤ n) (hc : n ≤ cap) : SrcOk W 1 (.slice (if cap = k then some ⟨b, o, none⟩ else some ⟨b, o + k, none⟩) (n - k) (cap - k)) (n - k) (strs (l.drop k)) := by
  have hlen : (strs (l.drop k)).length = (n - k) * 1 := by simp [strs]; omega
  have h1 : ∀ u ∈ strs (l.drop k), u.oneCell' = true := fun u hu => by obtain ⟨x, _, rfl⟩ := List.mem_map.1 hu; rfl
  by_cases he : cap = k
  · rw [if_pos he]
    refine .inr ⟨_, _, rfl, hlen, fun j u hj => ?_, h1⟩
    have : (strs (l.drop k)).length = 0 := by rw [hlen]; omega
    rw [List.getElem?_eq_none (by omega)] at hj
    cases hj
  · rw [if_neg he]
    refine .inr ⟨_, _, rfl, hlen, fun j u hj => ?_, h1⟩
    rw [adds]
    have hjl : j < (strs (l.drop k)).length := by
      rcases Nat.lt_or_ge j (strs (l.drop k)).length with h2 | h2
      · exact h2
      · rw [List.getElem?_eq_none h2] at hj; cases hj
    rw [List.getElem?_eq_getElem hjl] at hj
    rw [Nat.add_assoc, h (k + j) (by simp [strs] at hjl; omega), ← hj]
    simp [strs]
theorem owns_lit (w : World) (E : TypeId) (B : Nat) (hB : B ≤ w.heap.size) : (w.alloc (.cells #[] E)).ownsRow B E 1 (.slice (some ⟨w.heap.size, 0, none⟩) 0 0) 0 [] := by
  have h := World.ownsRow_made (e := E) (size := 1) (base := B) w #[] 0 hB (by unfold maxLen; omega) rfl
  simpa using h
/-- one result, a slice of texts that is not nil, of the call's own -/
def PutRet (B : Nat) (w : World) (L : List ByteArray) (e : Ending) (w' : World) : Prop :=
  ∃ g c, e = .returned (.slice (some ⟨g, 0, none⟩) L.length c) ∧ w'.ownsRow B 9 1 (.slice (some ⟨g, 0, none⟩) L.length c) L.length (strs L) ∧ Below w.heap.size w w'

set_option maxRecDepth 100000 in
set_option maxHeartbeats 4000000 in
theorem sPut_any (B g cap : Nat) (ms : List Bool) (c : Nat) (w : World) (hc : c < 256) (hl : ms.length = 256) (hB : B ≤ w.heap.size) (hown : w.ownsRow B 9 1 (.slice (some ⟨g, 0, none⟩) (letL ms).length cap) (letL ms).length (strs (letL ms))) :
    Calls Try.prog 64 #[.slice (some ⟨g, 0, none⟩) (letL ms).length cap, .string (oneT c)] w (PutRet B w (letL (ms.set c true))) := by
  obtain ⟨i0, hi, iz0, iz1, iz2⟩ := info_parts Try.infoStrP
  have hgl := (hown.lt g rfl).2
  have hcap : (letL ms).length ≤ cap := by
    rcases owns_form hown with ⟨h1, _⟩ | ⟨g1, c1, h1, _, _, h2, _⟩
    · simp at h1
    · simp at h1; rw [h1.2]; exact h2
  have hcm : cap ≤ maxLen := by
    rcases owns_form hown with ⟨h1, _⟩ | ⟨g1, c1, h1, _, _, _, h2⟩
    · simp at h1
    · simp at h1; rw [h1.2]; exact h2
  unfold maxLen at hcm
  have hcell := hid (fun j (hj : j < (letL ms).length) => (by rw [Nat.zero_add, hown.cellAt j (by omega), List.getElem?_eq_getElem (by rw [strs_len]; exact hj), strs_get] : w.cell? ⟨g, 0 + j, none⟩ = some (.string (letL ms)[j])))
  have hput := hid (fun k hlo hhi => letL_put (k := k) hl hc hlo hhi)
  have hsame := hid (fun (h : marked ms c = true) => set_same h)
  have hbeh := hid (fun k (hk : k < (bytesOf ms).length) (h : c < (bytesOf ms)[k]) => bytes_behind hk h)
  have hthere := hid (fun k (hk : k < (bytesOf ms).length) (h : (bytesOf ms)[k] = c) => bytes_there hk h)
  have hless := hid (fun k (hk : k < (letL ms).length) (hk2 : k < (bytesOf ms).length) => (by rw [letL_get hk]; exact less_one (bytes_lt _) hc : Op.bytesLess (letL ms)[k].toList (oneT c).toList = decide ((bytesOf ms)[k] < c)))
  have heq := hid (fun k (hk : k < (letL ms).length) (hk2 : k < (bytesOf ms).length) => (by rw [letL_get hk]; exact oneT_inj (bytes_lt _) hc : ((letL ms)[k].toList == (oneT c).toList) = decide ((bytesOf ms)[k] = c)))
  have hnl := hid (letL_len ms)
  have hn256 := letL_le ms
  have HOWN := hid hown
  have hlit := owns_lit w 9 w.heap.size (Nat.le_refl _)
  have hB0 : Below w.heap.size w (w.alloc (.cells #[] 9)) := (Below.refl _ _).alloc (Nat.le_refl _) _
  clear hown
  obtain ⟨R, hR⟩ : ∃ R, R = letL (ms.set c true) := ⟨_, rfl⟩
  have HR := hid hR
  rw [← hR] at hput
  rw [← hR]
  clear hR
  obtain ⟨L, hL⟩ : ∃ L, L = letL ms := ⟨_, rfl⟩
  have HL := hid hL
  rw [← hL] at hcap hcell hput hless heq hnl hn256 HOWN
  rw [← hL]
  clear hL
  obtain ⟨n, hn⟩ : ∃ n, n = L.length := ⟨_, rfl⟩
  have HN := hid hn
  rw [← hn] at hcap hnl hn256 HOWN
  rw [← hn]
  clear hn
  obtain ⟨T, hT⟩ : ∃ T, T = oneT c := ⟨_, rfl⟩
  rw [← hT] at hput hless heq
  rw [← hT]
  clear hT
  go_enter Try.func64, Try.ntmps64
  go_wp2_with fail
  go_loopw [5] (fun i wr => ∃ k : Nat, k ≤ n ∧ i = .int .i64 k ∧ Hid (∀ y ∈ (bytesOf ms).take k, y < c) ∧ w = wr) (fun i _ => n - (intOf i).toNat)
  case atStart => exact ⟨0, Nat.zero_le _, rfl, hid (by simp), rfl⟩
  case round =>
    obtain ⟨k, hk, rfl, hlo, rfl⟩ := hrel
    have hk0 : (0 : Int) ≤ (k : Int) := by omega
    have hkc : (k : Int) ≤ (cap : Int) := by omega
    have hkc2 : k ≤ cap := by omega
    by_cases hlt : k < n
    · have hkn : (k : Int) < (n : Int) := by omega
      have hkL : k < L.length := by rw [← HN.out]; exact hlt
      have hkb : k < (bytesOf ms).length := by rw [← hnl.out]; exact hlt
      have g1 := hcell.out k hkL
      rw [Nat.zero_add] at g1
      have hl1 := hid (hless.out k hkL hkb)
      have hq1 := hid (heq.out k hkL hkb)
      obtain ⟨z, hz⟩ : ∃ z, z = L[k] := ⟨_, rfl⟩
      rw [← hz] at g1 hl1 hq1
      clear hz
      cases hle : Op.bytesLess z.toList T.toList
      case true =>
        have hnx := hid (take_lo hkb hlo.out (by have := hl1.out; rw [hle] at this; exact of_decide_eq_true this.symm))
        go_wp2_with fail
        go_roundw
        case rel => exact ⟨k + 1, by omega, by go_num, hnx, by trivial⟩
        case measure => simp [intOf]; omega
      cases hqe : (z.toList == T.toList)
      case true =>
        have hs := hid (hsame.out (hthere.out k hkb (by have := hq1.out; rw [hqe] at this; exact of_decide_eq_true this.symm)))
        have hRL := hid (HR.out.trans ((congrArg letL hs.out).trans HL.out.symm))
        go_wp2_with fail
        go_ret
        rw [hRL.out]
        exact ⟨g, cap, by rw [← HN.out]; rfl, by rw [← HN.out]; exact HOWN.out, Below.refl _ _⟩
      have hr := hid (hput.out k hlo.out (hbeh.out k hkb (by
        have h1 := hl1.out
        have h2 := hq1.out
        rw [hle] at h1
        rw [hqe] at h2
        have h3 := of_decide_eq_false h1.symm
        have h4 := of_decide_eq_false h2.symm
        omega)))
      have hs1 := hid (take_news (fun j hj => (hB0.cell (p := ⟨g, 0 + j, none⟩) hgl).trans (hcell.out j hj)) (by omega : k ≤ L.length))
      clear hless heq hput hsame hbeh hthere
      go_wp2_with (first | (at_builtin; refine wpList_append_own _ rfl _ _ 48 rfl w.heap.size 9 i0 (.string ByteArray.empty) 1 16 Try.underlying48 hi iz0 iz1 iz2 rfl (by decide) (.slice (some ⟨w.heap.size, 0, none⟩) 0 0) 0 [] rfl hlit ⟨g, 0, none⟩ k cap (strs (L.take k)) rfl (take_len (by rw [← HN.out]; omega)) hs1.out (strs_one _) (by unfold maxLen; omega) (by omega) (by simp) ?_; intro v1 w3 ho3 hg3 hni3; have hB3 : Below w.heap.size w w3 := below_grown hB0 (by simp) hlit hg3; rw [Nat.zero_add, List.nil_append] at ho3; have hz3 := hB3.size; rcases owns_form ho3 with ⟨hv1, _⟩ | ⟨g3, c3, rfl, _⟩; (exact absurd (hni3.1 hv1).1 (by simp))) | (at_builtin; refine wpList_append_src rfl _ _ 48 rfl w.heap.size 9 i0 (.string ByteArray.empty) 1 16 Try.underlying48 hi iz0 iz1 iz2 rfl (by decide) (.slice (some ⟨g3, 0, none⟩) k c3) k (strs (L.take k)) rfl (ho3.alloc _) _ 1 [.string T] rfl (src_one _ _ _) (by unfold maxLen; omega) (by omega) (by simp; omega) ?_; intro v2 w4 ho4 hg4; have hB4 : Below w.heap.size w w4 := below_grown (hB3.alloc hz3 _) (by simp; omega) (ho3.alloc _) hg4; have hz4 := hB4.size; rcases owns_form ho4 with ⟨_, h04, _⟩ | ⟨g4, c4, rfl, _⟩; (exfalso; omega); have hs3 := hid (src_dropS (n := n) (k := k) (cap := cap) (fun j hj => (hB4.cell (p := ⟨g, 0 + j, none⟩) hgl).trans (hcell.out j hj)) HN.out (by omega) hcap)) | (at_builtin; refine wpList_append_src rfl _ _ 48 rfl w.heap.size 9 i0 (.string ByteArray.empty) 1 16 Try.underlying48 hi iz0 iz1 iz2 rfl (by decide) (.slice (some ⟨g4, 0, none⟩) (k + 1) c4) (k + 1) (strs (L.take k) ++ [.string T]) rfl ho4 _ (n - k) (strs (L.drop k)) rfl (by have h3 := hs3.out; first | exact h3 | (rw [if_neg (by omega), Nat.zero_add] at h3; exact h3) | (rw [Nat.zero_add] at h3; exact h3) | (rw [Nat.zero_add, Nat.sub_self] at h3; simpa using h3) | simpa using h3) (by unfold maxLen; omega) (by omega) (by omega) ?_; intro v3 w5 ho5 hg5; have hB5 : Below w.heap.size w w5 := below_grown hB4 hz4 ho4 hg5))
      go_ret
      have hlen : R.length = k + 1 + (n - k) := by rw [← hr.out]; simp; rw [← HN.out]; omega
      have hls : strs (L.take k) ++ [.string T] ++ strs (L.drop k) = strs R := by rw [← hr.out]; simp [strs]
      rw [hls, ← hlen] at ho5
      rcases owns_form ho5 with ⟨_, h0, _⟩ | ⟨g5, c5, rfl, _⟩
      · omega
      exact ⟨g5, c5, rfl, owns_mono ho5 hB, hB5⟩
    · obtain rfl : k = n := by omega
      have hr := hid (hput.out k hlo.out (by rw [hnl.out]; exact bytes_end))
      have hs1 := hid (take_news (fun j hj => (hB0.cell (p := ⟨g, 0 + j, none⟩) hgl).trans (hcell.out j hj)) (by rw [← HN.out]; omega : k ≤ L.length))
      clear hless heq hput hsame hbeh hthere
      go_wp2_with (first | (at_builtin; refine wpList_append_own _ rfl _ _ 48 rfl w.heap.size 9 i0 (.string ByteArray.empty) 1 16 Try.underlying48 hi iz0 iz1 iz2 rfl (by decide) (.slice (some ⟨w.heap.size, 0, none⟩) 0 0) 0 [] rfl hlit ⟨g, 0, none⟩ k cap (strs (L.take k)) rfl (take_len (by rw [← HN.out]; omega)) hs1.out (strs_one _) (by unfold maxLen; omega) (by omega) (by simp) ?_; intro v1 w3 ho3 hg3 hni3; have hB3 : Below w.heap.size w w3 := below_grown hB0 (by simp) hlit hg3; rw [Nat.zero_add, List.nil_append] at ho3; have hz3 := hB3.size; rcases owns_form ho3 with ⟨hv1, _⟩ | ⟨g3, c3, rfl, _⟩; (exact absurd (hni3.1 hv1).1 (by simp))) | (at_builtin; refine wpList_append_src rfl _ _ 48 rfl w.heap.size 9 i0 (.string ByteArray.empty) 1 16 Try.underlying48 hi iz0 iz1 iz2 rfl (by decide) (.slice (some ⟨g3, 0, none⟩) k c3) k (strs (L.take k)) rfl (ho3.alloc _) _ 1 [.string T] rfl (src_one _ _ _) (by unfold maxLen; omega) (by omega) (by simp; omega) ?_; intro v2 w4 ho4 hg4; have hB4 : Below w.heap.size w w4 := below_grown (hB3.alloc hz3 _) (by simp; omega) (ho3.alloc _) hg4; have hz4 := hB4.size; rcases owns_form ho4 with ⟨_, h04, _⟩ | ⟨g4, c4, rfl, _⟩; (exfalso; omega); have hs3 := hid (src_dropS (n := k) (k := k) (cap := cap) (fun j hj => (hB4.cell (p := ⟨g, 0 + j, none⟩) hgl).trans (hcell.out j hj)) HN.out (by omega) hcap)) | (at_builtin; refine wpList_append_src rfl _ _ 48 rfl w.heap.size 9 i0 (.string ByteArray.empty) 1 16 Try.underlying48 hi iz0 iz1 iz2 rfl (by decide) (.slice (some ⟨g4, 0, none⟩) (k + 1) c4) (k + 1) (strs (L.take k) ++ [.string T]) rfl ho4 _ 0 (strs (L.drop k)) rfl (by have h3 := hs3.out; first | exact h3 | (rw [if_neg (by omega), Nat.zero_add] at h3; exact h3) | (rw [Nat.zero_add] at h3; exact h3) | (rw [Nat.zero_add, Nat.sub_self] at h3; exact h3) | simpa using h3) (by unfold maxLen; omega) (by omega) (by omega) ?_; intro v3 w5 ho5 hg5; have hB5 : Below w.heap.size w w5 := below_grown hB4 hz4 ho4 hg5))
      all_goals (
        go_ret
        have hlen : R.length = k + 1 + 0 := by rw [← hr.out]; simp; rw [← HN.out]; omega
        have hls : strs (L.take k) ++ [.string T] ++ strs (L.drop k) = strs R := by rw [← hr.out]; simp [strs]
        rw [hls, ← hlen] at ho5
        rcases owns_form ho5 with ⟨_, h0, _⟩ | ⟨g5, c5, rfl, _⟩
        · omega
        exact ⟨g5, c5, rfl, owns_mono ho5 hB, hB5⟩)

/-- the letters so far -/
theorem letL_take {ms : List Bool} {k : Nat} (hk : k < (ascB ms).size) : (letL ms).take (k + 1) = (letL ms).take k ++ [(ascB ms).extract k (k + 1)] := by
  have h1 : k < (letL ms).length := by rw [letL_len, ← ascB_size]; exact hk
  rw [List.take_succ_eq_append_getElem h1]
  congr 1
  rw [letL_get h1]
  obtain ⟨h2, h3⟩ := one_at hk
  rw [of_one h2, h3, ascB_get hk]
set_option maxRecDepth 100000 in
set_option maxHeartbeats 4000000 in
theorem letList_any (ms : List Bool) (w : World) :
    Calls Try.prog 65 #[.string (ascB ms)] w (PutRet w.heap.size w (letL ms)) := by
  obtain ⟨i0, hi, iz0, iz1, iz2⟩ := info_parts Try.infoStrP
  have hnx := hid (fun k hk => letL_take (ms := ms) (k := k) hk)
  have hsz := hid (ascB_size ms)
  have hll := hid (letL_len ms)
  have h256 : (ascB ms).size ≤ 256 := by rw [hsz.out]; exact bytes_len ms
  have hlit := owns_lit w 9 w.heap.size (Nat.le_refl _)
  have hB0 : Below w.heap.size w (w.alloc (.cells #[] 9)) := (Below.refl _ _).alloc (Nat.le_refl _) _
  obtain ⟨s, hs⟩ : ∃ s, s = ascB ms := ⟨_, rfl⟩
  rw [← hs] at hnx hsz h256
  rw [← hs]
  clear hs
  obtain ⟨L, hL⟩ : ∃ L, L = letL ms := ⟨_, rfl⟩
  rw [← hL] at hnx hll
  rw [← hL]
  clear hL
  go_enter Try.func65, Try.ntmps65
  go_wp2_with fail
  have hown0 : (w.alloc (.cells #[] 9)).ownsRow w.heap.size 9 1 (.slice (some ⟨w.heap.size, 0, none⟩) 0 0) 0 (strs (L.take 0)) := by simpa [strs] using hlit
  obtain ⟨w1, hw1⟩ : ∃ w1, w1 = w.alloc (.cells #[] 9) := ⟨_, rfl⟩
  rw [← hw1] at hown0 hB0 ⊢
  clear hw1 hlit
  go_loopw [3, 4, 8] (fun v _ i wr => ∃ (k g c : Nat), k ≤ s.size ∧ i = .int .i64 k ∧ v = .slice (some ⟨g, 0, none⟩) k c ∧ wr.ownsRow w.heap.size 9 1 (.slice (some ⟨g, 0, none⟩) k c) k (strs (L.take k)) ∧ Below w.heap.size w wr) (fun _ _ i _ => s.size - (intOf i).toNat)
  case atStart => exact ⟨0, _, 0, Nat.zero_le _, rfl, rfl, hown0, hB0⟩
  case round =>
    clear hown0 hB0
    obtain ⟨k, g, c, hk, rfl, rfl, hown, hB⟩ := hrel
    have hz := hB.size
    by_cases hlt : k < s.size
    · have hk0 : (0 : Int) ≤ (k : Int) := by omega
      have hk1 : (0 : Int) ≤ (k : Int) + 1 := by omega
      have hkn : (k : Int) < (s.size : Int) := by omega
      have hkn1 : (k : Int) + 1 ≤ (s.size : Int) := by omega
      have hkk : (k : Int) ≤ (k : Int) + 1 := by omega
      have ew : IntKind.i64.wrap ((k : Int) + 1) = (k : Int) + 1 := IntWalk.i64_in _ (by omega)
      have htn : ((k : Int) + 1).toNat = k + 1 := by omega
      have hn1 := hid (hnx.out k hlt)
      go_wp2_with (at_builtin; refine wpList_append_own _ rfl _ _ 48 rfl w.heap.size 9 i0 (.string ByteArray.empty) 1 16 Try.underlying48 hi iz0 iz1 iz2 rfl (by decide) _ _ _ rfl (hown.alloc _) ⟨wr.heap.size, 0, none⟩ 1 1 [.string (s.extract k (k + 1))] rfl rfl (one_new _ _ _) (one_okS _) (by unfold maxLen; omega) (by omega) (by simp; omega) ?_; intro v' w2 hown3 hgrow3 hnil)
      have hB3 := below_grown (hB.alloc (by omega) _) (by simp; omega) (hown.alloc _) hgrow3
      rcases owns_form hown3 with ⟨hv, hn0, _⟩ | ⟨g3, c3, rfl, _⟩
      · omega
      go_roundw
      case rel =>
        refine ⟨k + 1, g3, c3, by omega, by go_num, rfl, ?_, hB3⟩
        rw [hn1.out]
        simpa [strs] using hown3
      case measure => simp [intOf]; omega
    · obtain rfl : k = s.size := by omega
      have hLs : L.length = s.size := by rw [hll.out, hsz.out]
      have HLS := hid hLs
      have ht := hid (show L.take s.size = L by rw [← hLs]; exact List.take_length)
      clear hLs
      go_wp2
      go_ret
      rw [ht.out] at hown
      exact ⟨g, c, by rw [HLS.out]; rfl, by rw [HLS.out]; exact hown, hB⟩
end Go.Proofs.Ythhpeanlpikjbaa
