/-
  The library's stable sort at two blocks, and at any length below forty.
-/
import Derived.Test.YtnjdoedhhpkjhaaStableLay
namespace Go.Proofs.Ytnjdoedhhpkjhaa
open Go.Shelf Go.RowKit Go.Lib Go.Sort
set_option linter.unusedVariables false
section
variable {α : Type} [Inhabited α] {lt T : α → α → Bool}

theorem insFunc_any (enc : α → Value) (lt : α → α → Bool) (g : Nat) (lb : Array Value) (sf : Nat) (sb : Array Value) (blk off a b : Nat) (d : Array α) (w : World)
    (eg : ∀ args w, (callFunc g args).run Try.prog w = .ok (.enter g args) w) (hless : LessReads Try.prog g lb enc lt blk off d.size w) (hswap : SwapSwaps Try.prog sf sb enc blk off d.size)
    (hH : Holds enc w blk off d) (hblk : blk < w.heap.size) (hab : a ≤ b) (hb : b ≤ d.size) (hsz : d.size < 4611686018427387904) :
    Calls Try.prog 95 #[.agg #[.func (.func g) #[] lb, .func (.func sf) #[] sb], .int .i64 a, .int .i64 b] w fun e w' => e = .returned (.tuple #[]) ∧ SW enc w blk off (Sort.insertionSort lt d a b) w' := by
  have L15 : LaysGt.n15 Try.prog st_ren := { st_lays with }
  have LI : LaysGg.n26 Try.prog st_ren.viaGt := ({ L15 with } : LaysGt.n29 Try.prog st_ren).elder
  exact Any.insertionSort_func_w LI enc lt g lb sf sb blk off a b d w eg hless hswap hH hblk hab hb hsz

set_option maxHeartbeats 4000000 in
set_option maxRecDepth 100000 in
theorem stable_big (hT : SWO T) (enc : α → Value) (g : Nat) (lb : Array Value) (sf : Nat) (sb : Array Value) (blk off : Nat) (d : Array α) (W : World) (eg : ∀ args w, (callFunc g args).run Try.prog w = .ok (.enter g args) w)
    (hless : LessReads Try.prog g lb enc lt blk off d.size W) (hswap : SwapSwaps Try.prog sf sb enc blk off d.size) (hH : Holds enc W blk off d) (hblk : blk < W.heap.size) (h20 : 20 < d.size) (h40 : d.size < 40)
    (hsee : ∀ p q, p < q → q < d.size → lt d[q]! d[p]! = T d[q]! d[p]!) :
    Calls Try.prog 62 #[.agg #[.func (.func g) #[] lb, .func (.func sf) #[] sb], .int .i64 d.size] W fun e w' => e = .returned (.tuple #[]) ∧ ∃ d', Done T 0 d.size d d' ∧ SW enc W blk off d' w' := by
  have hSW := hid ((SW.start hH).alloc (.cells #[.func (.func g) #[] lb, .func (.func sf) #[] sb] 101))
  have hb1 : blk < (W.alloc (.cells #[.func (.func g) #[] lb, .func (.func sf) #[] sb] 101)).heap.size := by simp; omega
  have hH1 := hid (hSW.out.holds hblk hH rfl)
  have hls := hid (hSW.out.lessReads hless hblk rfl)
  have hswp := hid hswap
  -- the first block
  obtain ⟨d1, hd1⟩ : ∃ d1, d1 = Sort.insertionSort lt d 0 20 := ⟨_, rfl⟩
  have D1 : Done T 0 20 d d1 := by rw [hd1]; exact ins_done hT (by omega) (by omega) (fun p q _ hpq hq => hsee p q hpq (by omega))
  have hz1 : d1.size = d.size := D1.perm.1
  -- the second block
  obtain ⟨d2, hd2⟩ : ∃ d2, d2 = Sort.insertionSort lt d1 20 d.size := ⟨_, rfl⟩
  have g1 : ∀ k, 20 ≤ k → d1[k]! = d[k]! := fun k hk => D1.perm.2.1 k (Or.inr hk)
  have D2 : Done T 20 d.size d1 d2 := by
    rw [hd2]
    refine ins_done hT h20 (by omega) (fun p q hp hpq hq => ?_)
    rw [g1 p hp, g1 q (by omega)]
    exact hsee p q hpq hq
  have hz2 : d2.size = d.size := D2.perm.1.trans hz1
  have M2 : Mg lt T 0 20 d.size d2 := by
    have g2 : ∀ k, k < 20 → d2[k]! = d1[k]! := fun k hk => D2.perm.2.1 k (Or.inl hk)
    refine ⟨fun p q hp hpq hq => ?_, D2.sorted, fun p q _ hp hq hq2 => ?_⟩
    · rw [g2 p (by omega), g2 q hq]; exact D1.sorted p q hp hpq hq
    · rw [g2 p hp]
      have h3 : ∀ y, 20 ≤ y → y < d.size → ∀ x, 0 ≤ x → x < 20 → lt d[y]! d1[x]! = T d[y]! d1[x]! := fun y hy hy2 => permIn_all d d1 0 20 (fun z => lt d[y]! z = T d[y]! z) (by omega) D1.perm (fun x _ hx => hsee x y (by omega) hy2)
      exact permIn_all d1 d2 20 d.size (fun z => lt z d1[p]! = T z d1[p]!) (by omega) D2.perm (fun y hy hy2 => by rw [g1 y hy]; exact h3 y hy hy2 p (Nat.zero_le _) hp) q hq hq2
  have hfin := hid (fun d3 (h3 : Done T 0 d.size d2 d3) => (show Done T 0 d.size d d3 from ⟨permIn_trans d d1 d3 0 d.size (permIn_mono d d1 0 20 0 d.size (Nat.le_refl _) (by omega) (Nat.le_refl _) D1.perm) (permIn_trans d1 d2 d3 0 d.size (permIn_mono d1 d2 20 d.size 0 d.size (Nat.zero_le _) (Nat.le_refl _) (by omega) D2.perm) h3.perm), h3.sorted⟩))
  have HM2 := hid M2
  have HZ1 := hid hz1
  have HZ2 := hid hz2
  have c1 := insFunc_any enc lt g lb sf sb blk off 0 20 d _ eg hls.out hswp.out hH1.out hb1 (by omega) (by omega) (by omega)
  rw [← hd1] at c1
  have HC1 := hid c1
  have c2 := fun (w : World) (hsw : SW enc (W.alloc (.cells #[.func (.func g) #[] lb, .func (.func sf) #[] sb] 101)) blk off d1 w) => insFunc_any enc lt g lb sf sb blk off 20 d.size d1 w eg (by rw [hz1]; exact hsw.lessReads hls.out hb1 hz1) (by rw [hz1]; exact hswp.out) (hsw.holds hb1 hH1.out hz1) (hsw.lt hb1) (by omega) (by omega) (by omega)
  rw [← hd2] at c2
  have HC2 := hid c2
  have c3 := fun (w : World) (hsw : SW enc (W.alloc (.cells #[.func (.func g) #[] lb, .func (.func sf) #[] sb] 101)) blk off d2 w) => symMerge_any hT enc g lb sf sb blk off d.size eg hswp.out (by omega) (d.size + 1) 0 20 d.size d2 w (by omega) (by omega) h20 (Nat.le_refl _) hz2 M2 (hsw.lessReads hls.out hb1 hz2) (hsw.holds hb1 hH1.out hz2) (hsw.lt hb1)
  have HC3 := hid c3
  clear c1 c2 c3 hd1 hd2 D1 D2 g1 M2 hz1 hz2 hsee hH hless hswap
  obtain ⟨n, hn⟩ : ∃ n, n = d.size := ⟨_, rfl⟩
  rw [← hn] at h20 h40 HC2 HC3 hfin ⊢
  have HN := hid hn
  clear hn
  have i20 : (20 : Int) ≤ (n : Int) := by omega
  have i20' : (20 : Int) < (n : Int) := by omega
  have i40 : ¬ (40 : Int) ≤ (n : Int) := by omega
  have i40' : ¬ (40 : Int) < (n : Int) := by omega
  go_enter Try.func62, Try.ntmps62
  go_wp2_with fail
  refine wp_loop_rounds 2 ?_
  rw [rounds_succ]
  go_wp2_with (go_at_call 95; refine HC1.out.mono ?_; rintro e w1 ⟨rfl, hs1⟩; obtain ⟨ca0, ca1⟩ := box_cells W (.func g) #[] lb sf sb hblk hs1)
  rw [rounds_succ]
  go_wp2_with (go_at_call 95; refine (HC2.out w1 hs1).mono ?_; rintro e w2 ⟨rfl, hs2'⟩; have hs2 := sw_trans hs1 hb1 (HZ2.out.trans HZ1.out.symm) hs2'; clear hs2'; obtain ⟨cb0, cb1⟩ := box_cells W (.func g) #[] lb sf sb hblk hs2)
  refine wp_loop_rounds 2 ?_
  rw [rounds_succ]
  go_wp2_with fail
  refine wp_loop_rounds 1 ?_
  rw [rounds_succ]
  go_wp2_with (go_at_call 96; refine (HC3.out w2 hs2).mono ?_; rintro e w3 ⟨rfl, d3, hd3, hs3'⟩; have hs3 := sw_trans hs2 hb1 hd3.perm.1 hs3'; clear hs3'; obtain ⟨cc0, cc1⟩ := box_cells W (.func g) #[] lb sf sb hblk hs3)
  rw [rounds_succ]
  go_wp2_with fail
  go_end0
  exact ⟨rfl, d3, hfin.out d3 hd3, sw_trans hSW.out hblk (hd3.perm.1.trans HZ2.out) hs3⟩
end
end Go.Proofs.Ytnjdoedhhpkjhaa
