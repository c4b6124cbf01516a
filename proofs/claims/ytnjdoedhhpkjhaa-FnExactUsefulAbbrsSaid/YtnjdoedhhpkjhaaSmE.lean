/-
  The library's symmetric merge: the walk of the general case, and the whole by recursion.
-/
import Derived.Test.YtnjdoedhhpkjhaaSmD
namespace Go.Proofs.Ytnjdoedhhpkjhaa
open Go.Shelf Go.RowKit Go.Lib Go.Sort
set_option linter.unusedVariables false
section
variable {α : Type} [Inhabited α] {lt T : α → α → Bool}

/-- what is known of shorter merges -/
def SmIH (lt T : α → α → Bool) (enc : α → Value) (g : Nat) (lb : Array Value) (sf : Nat) (sb : Array Value) (blk off size len : Nat) : Prop :=
  ∀ (a m b : Nat) (d : Array α) (W : World), b - a < len → a < m → m < b → b ≤ size → d.size = size → Mg lt T a m b d → LessReads Try.prog g lb enc lt blk off size W → Holds enc W blk off d → blk < W.heap.size →
    Calls Try.prog 96 #[.agg #[.func (.func g) #[] lb, .func (.func sf) #[] sb], .int .i64 a, .int .i64 m, .int .i64 b] W fun e w' => e = .returned (.tuple #[]) ∧ ∃ d', Done T a b d d' ∧ SW enc W blk off d' w'

theorem mg_keep {a mid e b : Nat} {d1 d2 : Array α} (hme : mid ≤ e) (h : Mg lt T mid e b d1) {lo : Nat} (hp : PermIn a lo d1 d2) (hlo : lo ≤ mid) : Mg lt T mid e b d2 := by
  have g : ∀ k, mid ≤ k → d2[k]! = d1[k]! := fun k hk => hp.2.1 k (Or.inr (by omega))
  refine ⟨fun i j hi hij hj => ?_, fun i j hi hij hj => ?_, fun i j hi hi2 hj hj2 => ?_⟩
  · rw [g i hi, g j (by omega)]; exact h.left i j hi hij hj
  · rw [g i (by omega), g j (by omega)]; exact h.right i j hi hij hj
  · rw [g i hi, g j (by omega)]; exact h.cross i j hi hi2 hj hj2
/-- where the search for the middle begins and ends -/
structure SrchAt (lt : α → α → Bool) (a m b mid lo r : Nat) : Prop where
  lo1 : a ≤ lo
  lr : lo ≤ r
  rm : r ≤ m
  rmid : r ≤ mid
  lob : mid + m ≤ lo + b
  loc : lo = a ∨ lo + b = mid + m
  rc : r = m ∨ r = mid
omit [Inhabited α] in
theorem srch_hi {a m b mid : Nat} (h : mid = (a + b) / 2) (h1 : a < m) (h2 : m < b) (hc : mid < m) : SrchAt lt a m b mid (mid + m - b) mid :=
  ⟨by omega, by omega, by omega, by omega, by omega, Or.inr (by omega), Or.inr rfl⟩
omit [Inhabited α] in
theorem srch_lo {a m b mid : Nat} (h : mid = (a + b) / 2) (h1 : a < m) (h2 : m < b) (hc : m ≤ mid) : SrchAt lt a m b mid a m :=
  ⟨by omega, by omega, by omega, by omega, by omega, Or.inl rfl, Or.inl rfl⟩

set_option maxHeartbeats 8000000 in
set_option maxRecDepth 100000 in
theorem symMerge_gen (hT : SWO T) (enc : α → Value) (g : Nat) (lb : Array Value) (sf : Nat) (sb : Array Value) (blk off a m b : Nat) (d : Array α) (W : World) (eg : ∀ args w, (callFunc g args).run Try.prog w = .ok (.enter g args) w)
    (hIH : SmIH lt T enc g lb sf sb blk off d.size (b - a))
    (hless : LessReads Try.prog g lb enc lt blk off d.size W) (hswap : SwapSwaps Try.prog sf sb enc blk off d.size) (hH : Holds enc W blk off d) (hblk : blk < W.heap.size) (ham : a + 1 < m) (hmb : m + 1 < b) (hb : b ≤ d.size) (hsz : d.size < 4611686018427387904) (hM : Mg lt T a m b d) :
    Calls Try.prog 96 #[.agg #[.func (.func g) #[] lb, .func (.func sf) #[] sb], .int .i64 a, .int .i64 m, .int .i64 b] W fun e w' => e = .returned (.tuple #[]) ∧ ∃ d', Done T a b d d' ∧ SW enc W blk off d' w' := by
  have hSW := hid ((SW.start hH).alloc (.cells #[.func (.func g) #[] lb, .func (.func sf) #[] sb] 101))
  have hb1 : blk < (W.alloc (.cells #[.func (.func g) #[] lb, .func (.func sf) #[] sb] 101)).heap.size := by simp; omega
  have hH1 := hid (hSW.out.holds hblk hH rfl)
  have hS0 := hid (SW.start hH1.out)
  have hls := hid (hSW.out.lessReads hless hblk rfl)
  have hswp := hid hswap
  have hMM := hid hM
  have hih := hid hIH
  clear hH hswap hless hM hIH
  have e0 : (((m : Int) - (a : Int)) == 1) = false := by simp; omega
  have e1 : (((b : Int) - (m : Int)) == 1) = false := by simp; omega
  obtain ⟨mid, hmid⟩ : ∃ mid, mid = (a + b) / 2 := ⟨_, rfl⟩
  obtain ⟨lo, r0, hsr, hcase⟩ : ∃ lo r0, SrchAt lt a m b mid lo r0 ∧ ((mid < m ∧ lo + b = mid + m ∧ r0 = mid) ∨ (m ≤ mid ∧ lo = a ∧ r0 = m)) := by
    rcases Nat.lt_or_ge mid m with h | h
    · exact ⟨_, _, srch_hi hmid (by omega) (by omega) h, Or.inl ⟨h, by omega, rfl⟩⟩
    · exact ⟨_, _, srch_lo hmid (by omega) (by omega) h, Or.inr ⟨h, rfl, rfl⟩⟩
  have HMID := hid hmid
  have HSR := hid hsr
  have hmid1 : a < mid := by omega
  have hmid2 : mid < b := by omega
  clear hsr
  have HCS := hid hcase
  rcases hcase with ⟨hc, he1, he2⟩ | ⟨hc, he1, he2⟩
  all_goals (
    have HE1 := hid he1
    have HE2 := hid he2
    have hcI : ((m : Int) > ((a : Int) + b) / 2) ↔ mid < m := by omega
    first | (have hcd : ((a : Int) + b) / 2 < (m : Int) := by omega) | (have hcd : ¬ ((a : Int) + b) / 2 < (m : Int) := by omega)
    clear hcI he1 he2 hc hmid
    go_enter Try.func96, Try.ntmps96
    go_wp2_with fail
    have hmI : ((a : Int) + (b : Int)) / 2 = (mid : Int) := by have := HMID.out; omega
    rw [hmI]
    clear hmI hcd
    go_loopw [18, 19, 21] (fun vs vr _ wr => ∃ (s r : Nat), vs = .int .i64 s ∧ vr = .int .i64 r ∧ lo ≤ s ∧ s ≤ r ∧ r ≤ r0 ∧ Hid (∀ c, lo ≤ c → c < s → lt d[mid + m - 1 - c]! d[c]! = false) ∧ Hid (∀ c, r ≤ c → c < r0 → lt d[mid + m - 1 - c]! d[c]! = true) ∧ Hid (SW enc (W.alloc (.cells #[.func (.func g) #[] lb, .func (.func sf) #[] sb] 101)) blk off d wr)) (fun vs vr _ _ => (intOf vr).toNat - (intOf vs).toNat)
    case atStart =>
      have h1 := HE1.out
      have h2 := HE2.out
      exact ⟨lo, r0, by congr 1; omega, by congr 1; omega, Nat.le_refl _, HSR.out.lr, Nat.le_refl _, hid (fun q h1 h2 => by omega), hid (fun q h1 h2 => by omega), hS0⟩
    case round =>
      obtain ⟨s, r, rfl, rfl, hls1, hsr, hrr, hlo, hhi, hsw⟩ := hrel
      obtain ⟨c0, c1⟩ := box_cells W (.func g) #[] lb sf sb hblk hsw.out
      by_cases hlt : s < r
      · obtain ⟨h, hh⟩ : ∃ h, h = (s + r) / 2 := ⟨_, rfl⟩
        have q1 := HSR.out.lo1; have q2 := HSR.out.rm; have q3 := HSR.out.rmid; have q4 := HSR.out.lob
        have hl := hsw.out.less hls.out rfl (mid + m - 1 - h) h (by omega) (by omega)
        have hsr0 : (s : Int) < (r : Int) := by omega
        rw [show ((mid + m - 1 - h : Nat) : Int) = (mid : Int) + m - 1 - ((s : Int) + r) / 2 by omega, show ((h : Nat) : Int) = ((s : Int) + r) / 2 by omega] at hl
        cases hv : lt d[mid + m - 1 - h]! d[h]!
        · rw [hv] at hl
          have HL := hid hl
          clear hl
          have hlo2 := hid (show ∀ c, lo ≤ c → c < h + 1 → lt d[mid + m - 1 - c]! d[c]! = false from fun c h1 h2 => mg_mono hT hMM.out (p := mid + m - 1) (show a ≤ c by omega) (show c ≤ h by omega) (by omega) (by omega) (by omega) hv)
          have hsw2 := hid (fun q => hsw.out.drewN q)
          go_wp2_with (go_at_fn g; refine HL.out.mono ?_; rintro e w' ⟨rfl, q, rfl⟩)
          go_roundw
          case rel => exact ⟨h + 1, r, by congr 1; omega, rfl, by omega, by omega, hrr, hlo2, hhi, hid (hsw2.out q)⟩
          case measure => simp [intOf]; omega
        · rw [hv] at hl
          have HL := hid hl
          clear hl
          have hhi2 := hid (show ∀ c, h ≤ c → c < r0 → lt d[mid + m - 1 - c]! d[c]! = true from fun c h1 h2 => by
            cases hq : lt d[mid + m - 1 - c]! d[c]!
            · have := mg_mono hT hMM.out (p := mid + m - 1) (show a ≤ h by omega) h1 (by omega) (by omega) (by omega) hq
              rw [hv] at this; cases this
            · rfl)
          have hsw2 := hid (fun q => hsw.out.drewN q)
          go_wp2_with (go_at_fn g; refine HL.out.mono ?_; rintro e w' ⟨rfl, q, rfl⟩)
          go_roundw
          case rel => exact ⟨s, h, rfl, by congr 1; omega, hls1, by omega, by omega, hlo, hhi2, hid (hsw2.out q)⟩
          case measure => simp [intOf]; omega
      · obtain rfl : s = r := by omega
        have q1 := HSR.out.lo1; have q2 := HSR.out.rm; have q3 := HSR.out.rmid; have q4 := HSR.out.lob
        obtain ⟨e, he⟩ : ∃ e, e + s = mid + m := ⟨mid + m - s, by omega⟩
        have hme : m ≤ e := by omega
        have heb : e ≤ b := by omega
        have hsm : s ≤ m := by omega
        have has : a ≤ s := by omega
        have hfd := hid (mg_found hT hMM.out (s := s) (e := e) (mid := mid) (lo := lo) (r := r0) q1 hls1 hrr q2 he HSR.out.loc HSR.out.rc hme heb hlo.out hhi.out)
        have hsp := hid (fun d1 (hr : RotP s m e d d1) => mg_split (mid := mid) hT hMM.out has hsm hme heb (by omega) hr hfd.out.1 hfd.out.2)
        have HEE := hid he
        have heI : (mid : Int) + m - s = (e : Int) := by omega
        have hOm : (2 * mid ≤ a + b ∧ a + b ≤ 2 * mid + 1) ∧ ((mid < m ∧ lo + b = mid + m ∧ r0 = mid) ∨ (m ≤ mid ∧ lo = a ∧ r0 = m)) ∧ lo ≤ s ∧ s ≤ r0 ∧ e + s = mid + m := ⟨by have := HMID.out; omega, HCS.out, hls1, hrr, he⟩
        clear hS0 q1 q2 q3 q4 hlt hsr hrr hls1 he
        rcases (show (¬ (s : Int) < m) ∨ ((s : Int) < m ∧ ¬ (m : Int) < e) ∨ ((s : Int) < m ∧ (m : Int) < e) from by omega) with hA0 | ⟨hA1, hA2⟩ | ⟨hA1, hA2⟩
        · rcases (show (¬ (a : Int) < s) ∨ ((a : Int) < s ∧ ¬ (s : Int) < mid) ∨ ((a : Int) < s ∧ (s : Int) < mid) from by omega) with hB0 | ⟨hB1, hB2⟩ | ⟨hB1, hB2⟩
          · rcases (show (¬ (mid : Int) < e) ∨ ((mid : Int) < e ∧ ¬ (e : Int) < b) ∨ ((mid : Int) < e ∧ (e : Int) < b) from by omega) with hC0 | ⟨hC1, hC2⟩ | ⟨hC1, hC2⟩
            · exfalso; omega
            · exfalso; omega
            · exfalso; omega
          · rcases (show (¬ (mid : Int) < e) ∨ ((mid : Int) < e ∧ ¬ (e : Int) < b) ∨ ((mid : Int) < e ∧ (e : Int) < b) from by omega) with hC0 | ⟨hC1, hC2⟩ | ⟨hC1, hC2⟩
            · have hmid3 : a ≤ mid := by omega
              have hsmid : s ≤ mid := by omega
              have hmide : mid ≤ e := by omega
              have hlenB : mid - a < b - a := by omega
              have hlenC : b - mid < b - a := by omega
              have hAn : s = m ∨ m = e := by omega
              have hBn : a = s ∨ s = mid := by omega
              have hCn : mid = e ∨ e = b := by omega
              clear hOm
              have hr1 := hid (show RotP s m e d d from rot_id hsm hme hAn)
              go_wp2_with fail
              obtain ⟨hm1, hm2, hx⟩ := hsp.out d hr1.out
              have hz1 : d.size = d.size := hr1.out.perm.1
              have hz2 : d.size = d.size := hz1
              have hm3 := hid hm2
              have HD2 := hid (mg_done hm1 hBn)
              have HX := hid hx
              have h0 := permIn_mono d d s e a b has heb hb hr1.out.perm
              have HJ := hid (mg_join hb hmid3 (by omega) h0 HX.out HD2.out (mg_done hm3.out hCn))
              have hz3 := hid hz2
              go_end0
              exact ⟨rfl, d, HJ.out, sw_trans hSW.out hblk hz3.out hsw.out⟩
            · exfalso; omega
            · exfalso; omega
          · rcases (show (¬ (mid : Int) < e) ∨ ((mid : Int) < e ∧ ¬ (e : Int) < b) ∨ ((mid : Int) < e ∧ (e : Int) < b) from by omega) with hC0 | ⟨hC1, hC2⟩ | ⟨hC1, hC2⟩
            · have hmid3 : a ≤ mid := by omega
              have hsmid : s ≤ mid := by omega
              have hmide : mid ≤ e := by omega
              have hlenB : mid - a < b - a := by omega
              have hlenC : b - mid < b - a := by omega
              have hAn : s = m ∨ m = e := by omega
              have hn3 : a < s := by omega
              have hn4 : s < mid := by omega
              have hCn : mid = e ∨ e = b := by omega
              clear hOm
              have hr1 := hid (show RotP s m e d d from rot_id hsm hme hAn)
              go_wp2_with fail
              obtain ⟨hm1, hm2, hx⟩ := hsp.out d hr1.out
              have hz1 : d.size = d.size := hr1.out.perm.1
              refine (hih.out a s mid d wr hlenB hn3 hn4 (by omega) hz1 hm1 (hsw.out.lessReads hls.out hb1 hz1) (hsw.out.holds hb1 hH1.out hz1) (hsw.out.lt hb1)).mono ?_
              rintro e' wB ⟨rfl, d2, hd2, hsB⟩
              have hz2 : d2.size = d.size := hd2.perm.1.trans hz1
              have hsw2 := hid (sw_trans hsw.out hb1 hd2.perm.1 hsB)
              have hm3 := hid (mg_keep hmide hm2 hd2.perm (Nat.le_refl _))
              have HD2 := hid hd2
              have HX := hid hx
              obtain ⟨cb0, cb1⟩ := box_cells W (.func g) #[] lb sf sb hblk hsw2.out
              clear hd2 hsB hx hm1 hm2
              go_wp2_with fail
              have h0 := permIn_mono d d s e a b has heb hb hr1.out.perm
              have HJ := hid (mg_join hb hmid3 (by omega) h0 HX.out HD2.out (mg_done hm3.out hCn))
              have hz3 := hid hz2
              go_end0
              exact ⟨rfl, d2, HJ.out, sw_trans hSW.out hblk hz3.out hsw2.out⟩
            · exfalso; omega
            · exfalso; omega
        · rcases (show (¬ (a : Int) < s) ∨ ((a : Int) < s ∧ ¬ (s : Int) < mid) ∨ ((a : Int) < s ∧ (s : Int) < mid) from by omega) with hB0 | ⟨hB1, hB2⟩ | ⟨hB1, hB2⟩
          · rcases (show (¬ (mid : Int) < e) ∨ ((mid : Int) < e ∧ ¬ (e : Int) < b) ∨ ((mid : Int) < e ∧ (e : Int) < b) from by omega) with hC0 | ⟨hC1, hC2⟩ | ⟨hC1, hC2⟩
            · exfalso; omega
            · exfalso; omega
            · exfalso; omega
          · rcases (show (¬ (mid : Int) < e) ∨ ((mid : Int) < e ∧ ¬ (e : Int) < b) ∨ ((mid : Int) < e ∧ (e : Int) < b) from by omega) with hC0 | ⟨hC1, hC2⟩ | ⟨hC1, hC2⟩
            · exfalso; omega
            · exfalso; omega
            · have hmid3 : a ≤ mid := by omega
              have hsmid : s ≤ mid := by omega
              have hmide : mid ≤ e := by omega
              have hlenB : mid - a < b - a := by omega
              have hlenC : b - mid < b - a := by omega
              have hAn : s = m ∨ m = e := by omega
              have hBn : a = s ∨ s = mid := by omega
              have hn5 : mid < e := by omega
              have hn6 : e < b := by omega
              clear hOm
              have hr1 := hid (show RotP s m e d d from rot_id hsm hme hAn)
              go_wp2_with fail
              obtain ⟨hm1, hm2, hx⟩ := hsp.out d hr1.out
              have hz1 : d.size = d.size := hr1.out.perm.1
              have hz2 : d.size = d.size := hz1
              have hm3 := hid hm2
              have HD2 := hid (mg_done hm1 hBn)
              have HX := hid hx
              have h0 := permIn_mono d d s e a b has heb hb hr1.out.perm
              refine (hih.out mid e b d wr hlenC hn5 hn6 hb hz2 hm3.out (hsw.out.lessReads hls.out hb1 hz2) (hsw.out.holds hb1 hH1.out hz2) (hsw.out.lt hb1)).mono ?_
              rintro e' wC ⟨rfl, d3, hd3, hsC⟩
              have hsw3 := hid (sw_trans hsw.out hb1 hd3.perm.1 hsC)
              have HJ := hid (mg_join hb hmid3 (by omega) h0 HX.out HD2.out hd3)
              have hz3 := hid (hd3.perm.1.trans hz2)
              clear hd3 hsC h0
              go_wp2_with fail
              go_end0
              exact ⟨rfl, d3, HJ.out, sw_trans hSW.out hblk hz3.out hsw3.out⟩
          · rcases (show (¬ (mid : Int) < e) ∨ ((mid : Int) < e ∧ ¬ (e : Int) < b) ∨ ((mid : Int) < e ∧ (e : Int) < b) from by omega) with hC0 | ⟨hC1, hC2⟩ | ⟨hC1, hC2⟩
            · exfalso; omega
            · exfalso; omega
            · exfalso; omega
        · rcases (show (¬ (a : Int) < s) ∨ ((a : Int) < s ∧ ¬ (s : Int) < mid) ∨ ((a : Int) < s ∧ (s : Int) < mid) from by omega) with hB0 | ⟨hB1, hB2⟩ | ⟨hB1, hB2⟩
          · rcases (show (¬ (mid : Int) < e) ∨ ((mid : Int) < e ∧ ¬ (e : Int) < b) ∨ ((mid : Int) < e ∧ (e : Int) < b) from by omega) with hC0 | ⟨hC1, hC2⟩ | ⟨hC1, hC2⟩
            · exfalso; omega
            · have hmid3 : a ≤ mid := by omega
              have hsmid : s ≤ mid := by omega
              have hmide : mid ≤ e := by omega
              have hlenB : mid - a < b - a := by omega
              have hlenC : b - mid < b - a := by omega
              have hn1 : s < m := by omega
              have hn2 : m < e := by omega
              have hBn : a = s ∨ s = mid := by omega
              have hCn : mid = e ∨ e = b := by omega
              clear hOm
              have HR := hid (rotate_any enc (.func g) #[] lb sf sb blk off s m e d wr hswp.out (hsw.out.holds hb1 hH1.out rfl) (hsw.out.lt hb1) hn1 hn2 (by omega) hsz)
              go_wp2_with (go_at_call 121; refine HR.out.mono ?_; rintro e' wA ⟨rfl, d1, hr, hsA⟩; have hr1 := hid hr; have hsw1 := hid (sw_trans hsw.out hb1 hr.perm.1 hsA); clear hr hsA; obtain ⟨ca0, ca1⟩ := box_cells W (.func g) #[] lb sf sb hblk hsw1.out)
              obtain ⟨hm1, hm2, hx⟩ := hsp.out d1 hr1.out
              have hz1 : d1.size = d.size := hr1.out.perm.1
              have hz2 : d1.size = d.size := hz1
              have hm3 := hid hm2
              have HD2 := hid (mg_done hm1 hBn)
              have HX := hid hx
              have h0 := permIn_mono d d1 s e a b has heb hb hr1.out.perm
              have HJ := hid (mg_join hb hmid3 (by omega) h0 HX.out HD2.out (mg_done hm3.out hCn))
              have hz3 := hid hz2
              go_end0
              exact ⟨rfl, d1, HJ.out, sw_trans hSW.out hblk hz3.out hsw1.out⟩
            · have hmid3 : a ≤ mid := by omega
              have hsmid : s ≤ mid := by omega
              have hmide : mid ≤ e := by omega
              have hlenB : mid - a < b - a := by omega
              have hlenC : b - mid < b - a := by omega
              have hn1 : s < m := by omega
              have hn2 : m < e := by omega
              have hBn : a = s ∨ s = mid := by omega
              have hn5 : mid < e := by omega
              have hn6 : e < b := by omega
              clear hOm
              have HR := hid (rotate_any enc (.func g) #[] lb sf sb blk off s m e d wr hswp.out (hsw.out.holds hb1 hH1.out rfl) (hsw.out.lt hb1) hn1 hn2 (by omega) hsz)
              go_wp2_with (go_at_call 121; refine HR.out.mono ?_; rintro e' wA ⟨rfl, d1, hr, hsA⟩; have hr1 := hid hr; have hsw1 := hid (sw_trans hsw.out hb1 hr.perm.1 hsA); clear hr hsA; obtain ⟨ca0, ca1⟩ := box_cells W (.func g) #[] lb sf sb hblk hsw1.out)
              obtain ⟨hm1, hm2, hx⟩ := hsp.out d1 hr1.out
              have hz1 : d1.size = d.size := hr1.out.perm.1
              have hz2 : d1.size = d.size := hz1
              have hm3 := hid hm2
              have HD2 := hid (mg_done hm1 hBn)
              have HX := hid hx
              have h0 := permIn_mono d d1 s e a b has heb hb hr1.out.perm
              refine (hih.out mid e b d1 wA hlenC hn5 hn6 hb hz2 hm3.out (hsw1.out.lessReads hls.out hb1 hz2) (hsw1.out.holds hb1 hH1.out hz2) (hsw1.out.lt hb1)).mono ?_
              rintro e' wC ⟨rfl, d3, hd3, hsC⟩
              have hsw3 := hid (sw_trans hsw1.out hb1 hd3.perm.1 hsC)
              have HJ := hid (mg_join hb hmid3 (by omega) h0 HX.out HD2.out hd3)
              have hz3 := hid (hd3.perm.1.trans hz2)
              clear hd3 hsC h0
              go_wp2_with fail
              go_end0
              exact ⟨rfl, d3, HJ.out, sw_trans hSW.out hblk hz3.out hsw3.out⟩
          · rcases (show (¬ (mid : Int) < e) ∨ ((mid : Int) < e ∧ ¬ (e : Int) < b) ∨ ((mid : Int) < e ∧ (e : Int) < b) from by omega) with hC0 | ⟨hC1, hC2⟩ | ⟨hC1, hC2⟩
            · exfalso; omega
            · exfalso; omega
            · exfalso; omega
          · rcases (show (¬ (mid : Int) < e) ∨ ((mid : Int) < e ∧ ¬ (e : Int) < b) ∨ ((mid : Int) < e ∧ (e : Int) < b) from by omega) with hC0 | ⟨hC1, hC2⟩ | ⟨hC1, hC2⟩
            · exfalso; omega
            · have hmid3 : a ≤ mid := by omega
              have hsmid : s ≤ mid := by omega
              have hmide : mid ≤ e := by omega
              have hlenB : mid - a < b - a := by omega
              have hlenC : b - mid < b - a := by omega
              have hn1 : s < m := by omega
              have hn2 : m < e := by omega
              have hn3 : a < s := by omega
              have hn4 : s < mid := by omega
              have hCn : mid = e ∨ e = b := by omega
              clear hOm
              have HR := hid (rotate_any enc (.func g) #[] lb sf sb blk off s m e d wr hswp.out (hsw.out.holds hb1 hH1.out rfl) (hsw.out.lt hb1) hn1 hn2 (by omega) hsz)
              go_wp2_with (go_at_call 121; refine HR.out.mono ?_; rintro e' wA ⟨rfl, d1, hr, hsA⟩; have hr1 := hid hr; have hsw1 := hid (sw_trans hsw.out hb1 hr.perm.1 hsA); clear hr hsA; obtain ⟨ca0, ca1⟩ := box_cells W (.func g) #[] lb sf sb hblk hsw1.out)
              obtain ⟨hm1, hm2, hx⟩ := hsp.out d1 hr1.out
              have hz1 : d1.size = d.size := hr1.out.perm.1
              refine (hih.out a s mid d1 wA hlenB hn3 hn4 (by omega) hz1 hm1 (hsw1.out.lessReads hls.out hb1 hz1) (hsw1.out.holds hb1 hH1.out hz1) (hsw1.out.lt hb1)).mono ?_
              rintro e' wB ⟨rfl, d2, hd2, hsB⟩
              have hz2 : d2.size = d.size := hd2.perm.1.trans hz1
              have hsw2 := hid (sw_trans hsw1.out hb1 hd2.perm.1 hsB)
              have hm3 := hid (mg_keep hmide hm2 hd2.perm (Nat.le_refl _))
              have HD2 := hid hd2
              have HX := hid hx
              obtain ⟨cb0, cb1⟩ := box_cells W (.func g) #[] lb sf sb hblk hsw2.out
              clear hd2 hsB hx hm1 hm2
              go_wp2_with fail
              have h0 := permIn_mono d d1 s e a b has heb hb hr1.out.perm
              have HJ := hid (mg_join hb hmid3 (by omega) h0 HX.out HD2.out (mg_done hm3.out hCn))
              have hz3 := hid hz2
              go_end0
              exact ⟨rfl, d2, HJ.out, sw_trans hSW.out hblk hz3.out hsw2.out⟩
            · have hmid3 : a ≤ mid := by omega
              have hsmid : s ≤ mid := by omega
              have hmide : mid ≤ e := by omega
              have hlenB : mid - a < b - a := by omega
              have hlenC : b - mid < b - a := by omega
              have hn1 : s < m := by omega
              have hn2 : m < e := by omega
              have hn3 : a < s := by omega
              have hn4 : s < mid := by omega
              have hn5 : mid < e := by omega
              have hn6 : e < b := by omega
              clear hOm
              have HR := hid (rotate_any enc (.func g) #[] lb sf sb blk off s m e d wr hswp.out (hsw.out.holds hb1 hH1.out rfl) (hsw.out.lt hb1) hn1 hn2 (by omega) hsz)
              go_wp2_with (go_at_call 121; refine HR.out.mono ?_; rintro e' wA ⟨rfl, d1, hr, hsA⟩; have hr1 := hid hr; have hsw1 := hid (sw_trans hsw.out hb1 hr.perm.1 hsA); clear hr hsA; obtain ⟨ca0, ca1⟩ := box_cells W (.func g) #[] lb sf sb hblk hsw1.out)
              obtain ⟨hm1, hm2, hx⟩ := hsp.out d1 hr1.out
              have hz1 : d1.size = d.size := hr1.out.perm.1
              refine (hih.out a s mid d1 wA hlenB hn3 hn4 (by omega) hz1 hm1 (hsw1.out.lessReads hls.out hb1 hz1) (hsw1.out.holds hb1 hH1.out hz1) (hsw1.out.lt hb1)).mono ?_
              rintro e' wB ⟨rfl, d2, hd2, hsB⟩
              have hz2 : d2.size = d.size := hd2.perm.1.trans hz1
              have hsw2 := hid (sw_trans hsw1.out hb1 hd2.perm.1 hsB)
              have hm3 := hid (mg_keep hmide hm2 hd2.perm (Nat.le_refl _))
              have HD2 := hid hd2
              have HX := hid hx
              obtain ⟨cb0, cb1⟩ := box_cells W (.func g) #[] lb sf sb hblk hsw2.out
              clear hd2 hsB hx hm1 hm2
              go_wp2_with fail
              have h0 := permIn_mono d d1 s e a b has heb hb hr1.out.perm
              refine (hih.out mid e b d2 wB hlenC hn5 hn6 hb hz2 hm3.out (hsw2.out.lessReads hls.out hb1 hz2) (hsw2.out.holds hb1 hH1.out hz2) (hsw2.out.lt hb1)).mono ?_
              rintro e' wC ⟨rfl, d3, hd3, hsC⟩
              have hsw3 := hid (sw_trans hsw2.out hb1 hd3.perm.1 hsC)
              have HJ := hid (mg_join hb hmid3 (by omega) h0 HX.out HD2.out hd3)
              have hz3 := hid (hd3.perm.1.trans hz2)
              clear hd3 hsC h0
              go_wp2_with fail
              go_end0
              exact ⟨rfl, d3, HJ.out, sw_trans hSW.out hblk hz3.out hsw3.out⟩)

theorem symMerge_any (hT : SWO T) (enc : α → Value) (g : Nat) (lb : Array Value) (sf : Nat) (sb : Array Value) (blk off size : Nat) (eg : ∀ args w, (callFunc g args).run Try.prog w = .ok (.enter g args) w)
    (hswap : SwapSwaps Try.prog sf sb enc blk off size) (hsz : size < 4611686018427387904) : ∀ len, SmIH lt T enc g lb sf sb blk off size len
  | 0 => fun a m b d W h => by omega
  | len + 1 => fun a m b d W h ham hmb hb hds hM hless hH hblk => by
    subst hds
    by_cases h1 : m = a + 1
    · exact symMerge_one hT enc g lb sf sb blk off a m b d W h1 eg hless hswap hH hblk hmb hb hsz hM
    by_cases h2 : b = m + 1
    · exact symMerge_last hT enc g lb sf sb blk off a m b d W h2 eg hless hswap hH hblk (by omega) hb hsz hM
    have ih := symMerge_any hT enc g lb sf sb blk off d.size eg hswap hsz len
    exact symMerge_gen hT enc g lb sf sb blk off a m b d W eg (fun a' m' b' d' W' h' => ih a' m' b' d' W' (by omega)) hless hswap hH hblk (by omega) (by omega) hb hsz hM
end
end Go.Proofs.Ytnjdoedhhpkjhaa
