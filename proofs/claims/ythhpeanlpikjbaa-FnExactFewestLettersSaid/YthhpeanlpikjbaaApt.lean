/-
  Walks: the letters by which two machines differ.
-/
import Derived.Test.YthhpeanlpikjbaaPut
import Derived.Test.YthhpeanlpikjbaaFaceG
import Derived.Maps.AppendAt
namespace Go.Proofs.Ythhpeanlpikjbaa
open Go.RowKit Go.ChangeShapes Go.WideShapes
set_option linter.unusedVariables false
attribute [local go_sem ↓] Go.wp_at_zero Go.wp_at_succ

theorem grownBy_set (W : World) (b j : Nat) (v : Value) : W.grownBy (W.setCell ⟨b, j, none⟩ v) (some b) :=
  ⟨rfl, rfl, rfl, by simp, fun k _ hk => Below.heap_setCell _ _ _ k (fun e => hk (by rw [e]))⟩
theorem grownBy_drew (W : World) (row : Option Nat) : W.grownBy W.drew row := ⟨rfl, rfl, rfl, Nat.le_refl _, fun _ _ _ => rfl⟩
def headN (s : ByteArray) : Nat := if h : 0 < s.size then s[0].toNat else 0
theorem headN_get {s : ByteArray} (h : 0 < s.size) : headN s = s[0].toNat := by unfold headN; rw [dif_pos h]
theorem headN_lt (s : ByteArray) : headN s < 256 := by
  unfold headN
  split
  · exact UInt8.toNat_lt _
  · omega
theorem headN_one {s : ByteArray} (h : s.size = 1) : s = oneT (headN s) := by rw [headN_get (by omega)]; exact of_one h
def difK (fa fb : List Se) (s : ByteArray) : Bool := !(decide (kindI fa s = kindI fb s))
theorem difK_yes {fa fb : List Se} {s : ByteArray} (h : ¬ kindI fa s = kindI fb s) : difK fa fb s = true := by unfold difK; rw [decide_eq_false h]; rfl
theorem difK_no {fa fb : List Se} {s : ByteArray} (h : kindI fa s = kindI fb s) : difK fa fb s = false := by unfold difK; rw [decide_eq_true h]; rfl
def ltrK (fs : List Se) (k : Nat) : ByteArray := if h : k < fs.length then fs[k].1 else ⟨#[]⟩
theorem ltrK_get {fs : List Se} {k : Nat} (h : k < fs.length) : ltrK fs k = fs[k].1 := by unfold ltrK; rw [dif_pos h]
/-- the letters of a list that meet a test, marked -/
def mkW (p : ByteArray → Bool) (ms : List Bool) (fs : List Se) : Nat → List Bool
  | 0 => ms
  | k + 1 => if p (ltrK fs k) = true then (mkW p ms fs k).set (headN (ltrK fs k)) true else mkW p ms fs k
theorem mkW_len (p : ByteArray → Bool) (ms : List Bool) (fs : List Se) : ∀ k, (mkW p ms fs k).length = ms.length
  | 0 => rfl
  | k + 1 => by
    rw [mkW]
    split
    · rw [List.length_set]; exact mkW_len p ms fs k
    · exact mkW_len p ms fs k
theorem mkW_yes {p : ByteArray → Bool} {ms : List Bool} {fs : List Se} {k : Nat} (hk : k < fs.length) (h : p fs[k].1 = true) : mkW p ms fs (k + 1) = (mkW p ms fs k).set (headN fs[k].1) true := by rw [mkW, ltrK_get hk, if_pos h]
theorem mkW_no {p : ByteArray → Bool} {ms : List Bool} {fs : List Se} {k : Nat} (hk : k < fs.length) (h : p fs[k].1 = false) : mkW p ms fs (k + 1) = mkW p ms fs k := by rw [mkW, ltrK_get hk, if_neg (by rw [h]; decide)]
theorem mkW_mem {p : ByteArray → Bool} {ms : List Bool} {fs : List Se} (hl : ms.length = 256) (x : Nat) : ∀ k, k ≤ fs.length → (marked (mkW p ms fs k) x = true ↔ marked ms x = true ∨ ∃ f ∈ fs.take k, p f.1 = true ∧ headN f.1 = x)
  | 0, _ => by simp [mkW]
  | k + 1, hk => by
    have ih := mkW_mem (p := p) (fs := fs) hl x k (by omega)
    have hkl : k < fs.length := by omega
    rw [List.take_succ_eq_append_getElem hkl]
    cases hp : p fs[k].1
    · rw [mkW_no hkl hp, ih]
      constructor
      · rintro (h | ⟨f, hf, h⟩)
        · exact .inl h
        · exact .inr ⟨f, List.mem_append.2 (.inl hf), h⟩
      · rintro (h | ⟨f, hf, h⟩)
        · exact .inl h
        · rcases List.mem_append.1 hf with hf | hf
          · exact .inr ⟨f, hf, h⟩
          · simp at hf
            subst hf
            rw [hp] at h
            cases h.1
    · rw [mkW_yes hkl hp, marked_set (by rw [mkW_len, hl]; exact headN_lt _)]
      simp only [Bool.or_eq_true, decide_eq_true_eq]
      rw [ih]
      constructor
      · rintro ((h | ⟨f, hf, h⟩) | h)
        · exact .inl h
        · exact .inr ⟨f, List.mem_append.2 (.inl hf), h⟩
        · exact .inr ⟨fs[k], List.mem_append.2 (.inr (by simp)), hp, h.symm⟩
      · rintro (h | ⟨f, hf, h⟩)
        · exact .inl (.inl h)
        · rcases List.mem_append.1 hf with hf | hf
          · exact .inl (.inr ⟨f, hf, h⟩)
          · simp at hf
            subst hf
            exact .inr h.2.symm
def noMk : List Bool := List.replicate 256 false
theorem noMk_len : noMk.length = 256 := List.length_replicate
def apM (ms : List Bool) (fa fb : List Se) : List Bool := mkW (difK fa fb) (mkW (difK fa fb) ms fa fa.length) fb fb.length
def allM (fa fb : List Se) : List Bool := mkW (fun _ => true) (mkW (fun _ => true) noMk fa fa.length) fb fb.length
theorem apM_len {ms : List Bool} (fa fb : List Se) (h : ms.length = 256) : (apM ms fa fb).length = 256 := by rw [apM, mkW_len, mkW_len]; exact h
theorem allM_len (fa fb : List Se) : (allM fa fb).length = 256 := by rw [allM, mkW_len, mkW_len]; exact noMk_len
theorem marked_noMk (b : Nat) : marked noMk b = false := marked_none b
theorem apM_mem {ms : List Bool} {fa fb : List Se} (hl : ms.length = 256) (x : Nat) : marked (apM ms fa fb) x = true ↔ marked ms x = true ∨ ∃ f ∈ fa ++ fb, difK fa fb f.1 = true ∧ headN f.1 = x := by
  rw [apM, mkW_mem (by rw [mkW_len]; exact hl) x _ (Nat.le_refl _), mkW_mem hl x _ (Nat.le_refl _), List.take_length, List.take_length]
  simp only [List.mem_append]
  constructor
  · rintro ((h | ⟨f, hf, h⟩) | ⟨f, hf, h⟩)
    · exact .inl h
    · exact .inr ⟨f, .inl hf, h⟩
    · exact .inr ⟨f, .inr hf, h⟩
  · rintro (h | ⟨f, hf | hf, h⟩)
    · exact .inl (.inl h)
    · exact .inl (.inr ⟨f, hf, h⟩)
    · exact .inr ⟨f, hf, h⟩
theorem allM_mem {fa fb : List Se} (x : Nat) : marked (allM fa fb) x = true ↔ ∃ f ∈ fa ++ fb, headN f.1 = x := by
  rw [allM, mkW_mem (by rw [mkW_len]; exact noMk_len) x _ (Nat.le_refl _), mkW_mem noMk_len x _ (Nat.le_refl _), List.take_length, List.take_length, marked_noMk]
  simp only [List.mem_append, Bool.false_eq_true, false_or]
  constructor
  · rintro (⟨f, hf, _, h⟩ | ⟨f, hf, _, h⟩)
    · exact ⟨f, .inl hf, h⟩
    · exact ⟨f, .inr hf, h⟩
  · rintro ⟨f, hf | hf, h⟩
    · exact .inl ⟨f, hf, trivial, h⟩
    · exact .inr ⟨f, hf, trivial, h⟩
/-- all letters are letters -/
def Ones (fs : List Se) : Prop := ∀ f ∈ fs, f.1.size = 1
theorem ap_eq {fa fb : List Se} (ha : Ones fa) (hb : Ones fb) : (letL (allM fa fb)).filter (difK fa fb) = letL (apM noMk fa fb) := by
  unfold letL
  rw [List.filter_map]
  congr 1
  apply rise_ext
  · exact List.Pairwise.filter _ (bytes_rise _)
  · exact bytes_rise _
  · intro x
    rw [List.mem_filter, mem_bytes, mem_bytes, allM_mem, apM_mem noMk_len, marked_noMk]
    simp only [Bool.false_eq_true, false_or, Function.comp]
    constructor
    · rintro ⟨⟨hx, f, hf, he⟩, hd⟩
      refine ⟨hx, f, hf, ?_, he⟩
      have h1 : f.1 = oneT (headN f.1) := headN_one (by rcases List.mem_append.1 hf with h | h <;> first | exact ha f h | exact hb f h)
      rw [h1, he]
      exact hd
    · rintro ⟨hx, f, hf, hd, he⟩
      refine ⟨⟨hx, f, hf, he⟩, ?_⟩
      have h1 : f.1 = oneT (headN f.1) := headN_one (by rcases List.mem_append.1 hf with h | h <;> first | exact ha f h | exact hb f h)
      rw [h1, he] at hd
      exact hd
theorem filter_yes {α : Type} {p : α → Bool} {l : List α} {k : Nat} (h : k < l.length) (hp : p l[k] = true) : (l.take (k + 1)).filter p = (l.take k).filter p ++ [l[k]] := by
  rw [List.take_succ_eq_append_getElem h, List.filter_append]; simp [hp]
theorem filter_no {α : Type} {p : α → Bool} {l : List α} {k : Nat} (h : k < l.length) (hp : p l[k] = false) : (l.take (k + 1)).filter p = (l.take k).filter p := by
  rw [List.take_succ_eq_append_getElem h, List.filter_append]; simp [hp]

/-- the marks behind so many machines -/
def stA (ms : List Bool) (fa fb : List Se) : Nat → List Bool
  | 0 => ms
  | 1 => mkW (difK fa fb) ms fa fa.length
  | _ => mkW (difK fa fb) (mkW (difK fa fb) ms fa fa.length) fb fb.length
theorem rd_far {w w1 wr wq : World} {g : Nat} {ao : Option Addr} {xs : List Value} (h : Rd w ao xs) (hb : Below w.heap.size w w1) (hG : w1.grownBy wr (some g)) (hf : ∀ b o, ao = some ⟨b, o, none⟩ → xs = [] ∨ b ≠ g) (hq : Below wr.heap.size wr wq) : Rd wq ao xs := by
  rcases h with h | ⟨b, o, rfl, h2, h3⟩
  · exact .inl h
  · rcases hf b o rfl with he | hne
    · exact .inl he
    have h4 := Nat.lt_of_lt_of_le h2 hb.size
    refine rd_below (.inr ⟨b, o, rfl, Nat.lt_of_lt_of_le h4 hG.size, fun j hj => ?_⟩) hq
    exact (World.cell?_of_block (hG.block b h4 (by simp; exact hne))).trans ((hb.cell (p := ⟨b, o + j, none⟩) h2).trans (h3 j hj))
set_option maxRecDepth 100000 in
set_option maxHeartbeats 8000000 in
theorem apart_any (B g : Nat) (ms : List Bool) (xa : ByteArray) (aa : Option Addr) (na ca : Nat) (fa : List Se) (xb : ByteArray) (ab : Option Addr) (nb cb : Nat) (fb : List Se) (w : World)
    (hna : na = fa.length) (hra : Rd w aa (ses fa)) (hma : na ≤ 1048576) (hoA : Ones fa) (hnb : nb = fb.length) (hrb : Rd w ab (ses fb)) (hmb : nb ≤ 1048576) (hoB : Ones fb)
    (hH : HoldsM w B g ms) (hfA : ∀ b o, aa = some ⟨b, o, none⟩ → fa = [] ∨ b ≠ g) (hfB : ∀ b o, ab = some ⟨b, o, none⟩ → fb = [] ∨ b ≠ g) :
    Calls Try.prog 74 #[.agg #[.string xa, .slice aa na ca], .agg #[.string xb, .slice ab nb cb], .pointer (some ⟨g, 0, none⟩)] w fun e w' => e = .returned (.tuple #[]) ∧ HoldsM w' B g (apM ms fa fb) ∧ w.grownBy w' (some g) := by
  have HNA := hid hna
  have HNB := hid hnb
  have hfarA := hid hfA
  have hfarB := hid hfB
  have hfarSA := hid (fun b o h => (hfA b o h).imp_left (fun e => (by rw [e]; rfl : ses fa = [])))
  have hfarSB := hid (fun b o h => (hfB b o h).imp_left (fun e => (by rw [e]; rfl : ses fb = [])))
  have hrdA := rd_se hra
  have hrdB := rd_se hrb
  have hgl := hH.lt.2
  clear hna hnb hfA hfB
  go_enter Try.func74, Try.ntmps74
  go_wp2_with fail
  obtain ⟨w1, hw1⟩ : ∃ w1, w1 = ((w.alloc (.cells #[.string xa, .slice aa na ca] 44)).alloc (.cells #[.string xb, .slice ab nb cb] 44)).alloc (.cells #[.string xa, .slice aa na ca, .string xb, .slice ab nb cb] 44) := ⟨_, rfl⟩
  have hb1 : Below w.heap.size w w1 := by
    rw [hw1]
    (repeat (first | with_reducible exact Below.refl _ _ | with_reducible assumption | refine Below.drew ?_ | refine below_drewN ?_ _ | (refine Below.alloc ?_ (by first | omega | (simp; done) | (simp; omega)) _) | (refine Below.setCell ?_ (by first | omega | (simp; done) | (simp; omega)) _) | (refine Below.trans ?_ (Below.mono (by assumption) (by first | omega | (simp; done) | (simp; omega))))))
  have a0 : w1.cell? ⟨w.heap.size, 0, none⟩ = some (.string xa) := by rw [hw1]; exact ((((Below.refl (w.heap.size + 1) (w.alloc (.cells #[.string xa, .slice aa na ca] 44))).alloc (by simp) (.cells #[.string xb, .slice ab nb cb] 44)).alloc (by simp) (.cells #[.string xa, .slice aa na ca, .string xb, .slice ab nb cb] 44)).cell (p := ⟨w.heap.size, 0, none⟩) (by simp)).trans (by simp)
  have a1 : w1.cell? ⟨w.heap.size, 1, none⟩ = some (.slice aa na ca) := by rw [hw1]; exact ((((Below.refl (w.heap.size + 1) (w.alloc (.cells #[.string xa, .slice aa na ca] 44))).alloc (by simp) (.cells #[.string xb, .slice ab nb cb] 44)).alloc (by simp) (.cells #[.string xa, .slice aa na ca, .string xb, .slice ab nb cb] 44)).cell (p := ⟨w.heap.size, 1, none⟩) (by simp)).trans (by simp)
  have b0 : w1.cell? ⟨w.heap.size + 1, 0, none⟩ = some (.string xb) := by rw [hw1]; exact (((Below.refl (w.heap.size + 2) ((w.alloc (.cells #[.string xa, .slice aa na ca] 44)).alloc (.cells #[.string xb, .slice ab nb cb] 44))).alloc (by simp) (.cells #[.string xa, .slice aa na ca, .string xb, .slice ab nb cb] 44)).cell (p := ⟨w.heap.size + 1, 0, none⟩) (by simp)).trans (by simp)
  have b1 : w1.cell? ⟨w.heap.size + 1, 1, none⟩ = some (.slice ab nb cb) := by rw [hw1]; exact (((Below.refl (w.heap.size + 2) ((w.alloc (.cells #[.string xa, .slice aa na ca] 44)).alloc (.cells #[.string xb, .slice ab nb cb] 44))).alloc (by simp) (.cells #[.string xa, .slice aa na ca, .string xb, .slice ab nb cb] 44)).cell (p := ⟨w.heap.size + 1, 1, none⟩) (by simp)).trans (by simp)
  have s0 : w1.cell? ⟨w.heap.size + 2, 0, none⟩ = some (.string xa) := by rw [hw1]; exact (World.cell?_alloc_at _ _ _ _ (by simp)).trans rfl
  have s1 : w1.cell? ⟨w.heap.size + 2, 1, none⟩ = some (.slice aa na ca) := by rw [hw1]; exact (World.cell?_alloc_at _ _ _ _ (by simp)).trans rfl
  have s2 : w1.cell? ⟨w.heap.size + 2, 2, none⟩ = some (.string xb) := by rw [hw1]; exact (World.cell?_alloc_at _ _ _ _ (by simp)).trans rfl
  have s3 : w1.cell? ⟨w.heap.size + 2, 3, none⟩ = some (.slice ab nb cb) := by rw [hw1]; exact (World.cell?_alloc_at _ _ _ _ (by simp)).trans rfl
  have hl1 : w1.heap.size = w.heap.size + 3 := by rw [hw1]; simp
  rw [← hw1]
  clear hw1
  have hH1 := hH.below hb1
  go_loopw [7, 9, 14, 21] (fun _ _ i _ wr => ∃ k : Nat, k ≤ 2 ∧ i = .int .i64 k ∧ HoldsM wr B g (stA ms fa fb k) ∧ w1.grownBy wr (some g)) (fun _ _ i _ _ => 2 - (intOf i).toNat)
  case atStart => exact ⟨0, by omega, rfl, hH1, World.grownBy.refl _ _⟩
  case round =>
    clear hH hH1
    obtain ⟨k, hk, rfl, hH, hG⟩ := hrel
    have t0 := (World.cell?_of_block (a := ⟨w.heap.size + 2, 0, none⟩) (hG.block (w.heap.size + 2) (by omega) (fun e => by have := Option.some.inj e; omega))).trans s0
    have t1 := (World.cell?_of_block (a := ⟨w.heap.size + 2, 1, none⟩) (hG.block (w.heap.size + 2) (by omega) (fun e => by have := Option.some.inj e; omega))).trans s1
    have t2 := (World.cell?_of_block (a := ⟨w.heap.size + 2, 2, none⟩) (hG.block (w.heap.size + 2) (by omega) (fun e => by have := Option.some.inj e; omega))).trans s2
    have t3 := (World.cell?_of_block (a := ⟨w.heap.size + 2, 3, none⟩) (hG.block (w.heap.size + 2) (by omega) (fun e => by have := Option.some.inj e; omega))).trans s3
    rcases (show k = 0 ∨ k = 1 ∨ k = 2 by omega) with rfl | rfl | rfl
    · clear s0 s1 s2 s3
      go_wp2_with fail
      have hHm : HoldsM wr B g (mkW (difK fa fb) ms fa 0) := hH
      have hG0 : w1.grownBy (wr.alloc (.cells #[.string xa, .slice aa na ca] 44)) (some g) := hG.trans (World.grownBy_alloc _ _ _)
      have hH0 := hHm.below ((Below.refl wr.heap.size wr).alloc (Nat.le_refl _) (.cells #[.string xa, .slice aa na ca] 44))
      obtain ⟨w2, hw2⟩ : ∃ w2, w2 = wr.alloc (.cells #[.string xa, .slice aa na ca] 44) := ⟨_, rfl⟩
      rw [← hw2] at hG0 hH0 ⊢
      clear hw2 hHm
      go_loopw [9, 21] (fun _ i wr2 => ∃ c : Nat, c ≤ na ∧ i = .int .i64 c ∧ HoldsM wr2 B g (mkW (difK fa fb) ms fa c) ∧ w1.grownBy wr2 (some g)) (fun _ i _ => na - (intOf i).toNat)
      case atStart => exact ⟨0, Nat.zero_le _, rfl, hH0, hG0⟩
      case round =>
        clear hH hG hH0 hG0
        obtain ⟨c, hc, rfl, hH, hG⟩ := hrel
        have hz := hG.size
        by_cases hcl : c < na
        · rcases hrdA with hnil | ⟨b, o, rfl, hbl, hcell⟩
          · exact absurd (by rw [HNA.out, hnil]; rfl : na = 0) (by omega)
          have hcf : c < fa.length := by rw [← HNA.out]; exact hcl
          have hbg : b ≠ g := (hfarA.out b o rfl).resolve_left (fun h => by rw [h] at hcf; simp at hcf)
          have hne : (some b : Option Nat) ≠ some g := by simp; exact hbg
          have g1 : wr.cell? ⟨b, o + c * 2, none⟩ = some (.string fa[c].1) := (World.cell?_of_block (hG.block b (by omega) hne)).trans ((hb1.cell (p := ⟨b, o + c * 2, none⟩) hbl).trans (hcell c hcf).1)
          have g2 : wr.cell? ⟨b, o + c * 2 + 1, none⟩ = some (.int .i64 fa[c].2) := (World.cell?_of_block (hG.block b (by omega) hne)).trans ((hb1.cell (p := ⟨b, o + c * 2 + 1, none⟩) hbl).trans (hcell c hcf).2)
          have hone := hoA _ (List.getElem_mem hcf)
          have hy := hid (fun h => mkW_yes (p := difK fa fb) (ms := ms) hcf h)
          have hno := hid (fun h => mkW_no (p := difK fa fb) (ms := ms) hcf h)
          clear hcell
          obtain ⟨z, hzz⟩ : ∃ z, z = fa[c] := ⟨_, rfl⟩
          rw [← hzz] at g1 g2 hone hy hno
          clear hzz hcf
          obtain ⟨zs, zk⟩ := z
          dsimp only at g1 g2 hone hy hno
          have qa0 := (World.cell?_of_block (a := ⟨w.heap.size, 0, none⟩) (hG.block w.heap.size (by omega) (fun e => by have := Option.some.inj e; omega))).trans a0
          have qa1 := (World.cell?_of_block (a := ⟨w.heap.size, 1, none⟩) (hG.block w.heap.size (by omega) (fun e => by have := Option.some.inj e; omega))).trans a1
          have qb0 := (World.cell?_of_block (a := ⟨w.heap.size + 1, 0, none⟩) (hG.block (w.heap.size + 1) (by omega) (fun e => by have := Option.some.inj e; omega))).trans b0
          have qb1 := (World.cell?_of_block (a := ⟨w.heap.size + 1, 1, none⟩) (hG.block (w.heap.size + 1) (by omega) (fun e => by have := Option.some.inj e; omega))).trans b1
          have hc0 : (0 : Int) ≤ (c : Int) := by omega
          have hcn : (c : Int) < (na : Int) := by omega
          have ra5 : Hid (∀ y : Over (wr.alloc (.cells #[.string zs, .int .i64 zk] 109)), Rd (over _ y) (some ⟨b, o, none⟩) (ses fa)) := hid (fun y => rd_over (rd_far hra hb1 hG hfarSA.out ((Below.refl _ _).alloc (Nat.le_refl _) _)))
          have rb5 : Hid (∀ y : Over (wr.alloc (.cells #[.string zs, .int .i64 zk] 109)), Rd (over _ y) ab (ses fb)) := hid (fun y => rd_over (rd_far hrb hb1 hG hfarSB.out ((Below.refl _ _).alloc (Nat.le_refl _) _)))
          have z1 : w.heap.size < wr.heap.size + 1 := by omega
          have z3 : w.heap.size < wr.heap.size := by omega
          have z4 : w.heap.size + 1 < wr.heap.size := by omega
          have z2 : w.heap.size + 1 < wr.heap.size + 1 := by omega
          have hH5 := hH.below ((Below.refl wr.heap.size wr).alloc (Nat.le_refl _) (.cells #[.string zs, .int .i64 zk] 109))
          have hG5 := hG.trans (World.grownBy_alloc wr (.cells #[.string zs, .int .i64 zk] 109) (some g))
          obtain ⟨ka, hka⟩ : ∃ r, r = kindI fa zs := ⟨_, rfl⟩
          obtain ⟨kb, hkb⟩ : ∃ r, r = kindI fb zs := ⟨_, rfl⟩
          have KA := hid hka.symm
          have KB := hid hkb.symm
          by_cases hk : ka = kb
          · have hn1 := hid (hno.out (difK_no (by rw [← hka, ← hkb]; exact hk)))
            have e1 := neI_false hk
            clear hk hka hkb
            go_wp2_with fail
            refine wp_region_over (by kernel_rfl) (by kernel_rfl) (fun hov => ?_)
            repeat (go_big_quiet_step ((first | (go_at_call 62; with_reducible exact overCall (kindW_b xa _ na ca fa zs _ HNA.out (ra5.out _) hma KA.out)) | (go_at_call 62; with_reducible exact overCall (kindW_b xb _ nb cb fb zs _ HNB.out (rb5.out _) hmb KB.out)))))
            refine wpQuiet_nil ?_
            intro w5 hb5
            clear hov
            go_wp2
            go_roundw
            case rel => exact ⟨c + 1, by omega, by go_num, by rw [hn1.out]; exact hH5.below hb5, hG5.trans (grown_of_below hb5)⟩
            case measure => simp [intOf]; omega
          · have hn1 := hid (hy.out (difK_yes (by rw [← hka, ← hkb]; exact hk)))
            have e1 := neI_true hk
            have hzs : zs.size = 1 := hone
            have hz0 : (0 : Int) < (zs.size : Int) := by omega
            have hz00 : 0 < zs.size := by omega
            have hhd := headN_get hz00
            have HHD := hid hhd
            have hi0 : (0 : Int) ≤ ((zs[0].toNat : Nat) : Int) := by omega
            have h256 : zs[0].toNat < 256 := UInt8.toNat_lt _
            have hi1 : ((zs[0].toNat : Nat) : Int) < 256 := by omega
            clear hk hka hkb hhd hone
            go_wp2_with fail
            refine wp_region_over (by kernel_rfl) (by kernel_rfl) (fun hov => ?_)
            repeat (go_big_quiet_step ((first | (go_at_call 62; with_reducible exact overCall (kindW_b xa _ na ca fa zs _ HNA.out (ra5.out _) hma KA.out)) | (go_at_call 62; with_reducible exact overCall (kindW_b xb _ nb cb fb zs _ HNB.out (rb5.out _) hmb KB.out)))))
            refine wpQuiet_nil ?_
            intro w5 hb5
            clear hov
            have hH6 := hH5.below hb5
            have hG6 := hG5.trans (grown_of_below hb5)
            have hcm := hH6.cell h256
            have hfz := hH6.frozen zs[0].toNat
            have q9 : w5.cell? ⟨wr.heap.size, 0, none⟩ = some (.string zs) := (hb5.cell (p := ⟨wr.heap.size, 0, none⟩) (by simp)).trans (by simp)
            clear hG5 hH5 hH hG
            go_wp2_with fail
            go_region
            go_wp2
            go_roundw
            case rel => exact ⟨c + 1, by omega, by go_num, by rw [hn1.out, HHD.out]; exact hH6.store _ _, (hG6.trans (grownBy_set _ _ _ _)).trans (grownBy_drew _ _)⟩
            case measure => simp [intOf]; omega
        · obtain rfl : c = na := by omega
          have hl := hid (show mkW (difK fa fb) ms fa fa.length = mkW (difK fa fb) ms fa c by rw [← HNA.out])
          go_wp2
          go_roundw
          case rel => exact ⟨1, by omega, by go_num, by show HoldsM _ _ _ (stA ms fa fb 1); rw [show stA ms fa fb 1 = mkW (difK fa fb) ms fa fa.length from rfl, hl.out]; exact hH, hG⟩
          case measure => simp [intOf]
    · clear s0 s1 s2 s3
      go_wp2_with fail
      have hHm : HoldsM wr B g (mkW (difK fa fb) (mkW (difK fa fb) ms fa fa.length) fb 0) := hH
      have hG0 : w1.grownBy (wr.alloc (.cells #[.string xb, .slice ab nb cb] 44)) (some g) := hG.trans (World.grownBy_alloc _ _ _)
      have hH0 := hHm.below ((Below.refl wr.heap.size wr).alloc (Nat.le_refl _) (.cells #[.string xb, .slice ab nb cb] 44))
      obtain ⟨w2, hw2⟩ : ∃ w2, w2 = wr.alloc (.cells #[.string xb, .slice ab nb cb] 44) := ⟨_, rfl⟩
      rw [← hw2] at hG0 hH0 ⊢
      clear hw2 hHm
      go_loopw [9, 21] (fun _ i wr2 => ∃ c : Nat, c ≤ nb ∧ i = .int .i64 c ∧ HoldsM wr2 B g (mkW (difK fa fb) (mkW (difK fa fb) ms fa fa.length) fb c) ∧ w1.grownBy wr2 (some g)) (fun _ i _ => nb - (intOf i).toNat)
      case atStart => exact ⟨0, Nat.zero_le _, rfl, hH0, hG0⟩
      case round =>
        clear hH hG hH0 hG0
        obtain ⟨c, hc, rfl, hH, hG⟩ := hrel
        have hz := hG.size
        by_cases hcl : c < nb
        · rcases hrdB with hnil | ⟨b, o, rfl, hbl, hcell⟩
          · exact absurd (by rw [HNB.out, hnil]; rfl : nb = 0) (by omega)
          have hcf : c < fb.length := by rw [← HNB.out]; exact hcl
          have hbg : b ≠ g := (hfarB.out b o rfl).resolve_left (fun h => by rw [h] at hcf; simp at hcf)
          have hne : (some b : Option Nat) ≠ some g := by simp; exact hbg
          have g1 : wr.cell? ⟨b, o + c * 2, none⟩ = some (.string fb[c].1) := (World.cell?_of_block (hG.block b (by omega) hne)).trans ((hb1.cell (p := ⟨b, o + c * 2, none⟩) hbl).trans (hcell c hcf).1)
          have g2 : wr.cell? ⟨b, o + c * 2 + 1, none⟩ = some (.int .i64 fb[c].2) := (World.cell?_of_block (hG.block b (by omega) hne)).trans ((hb1.cell (p := ⟨b, o + c * 2 + 1, none⟩) hbl).trans (hcell c hcf).2)
          have hone := hoB _ (List.getElem_mem hcf)
          have hy := hid (fun h => mkW_yes (p := difK fa fb) (ms := (mkW (difK fa fb) ms fa fa.length)) hcf h)
          have hno := hid (fun h => mkW_no (p := difK fa fb) (ms := (mkW (difK fa fb) ms fa fa.length)) hcf h)
          clear hcell
          obtain ⟨z, hzz⟩ : ∃ z, z = fb[c] := ⟨_, rfl⟩
          rw [← hzz] at g1 g2 hone hy hno
          clear hzz hcf
          obtain ⟨zs, zk⟩ := z
          dsimp only at g1 g2 hone hy hno
          have qa0 := (World.cell?_of_block (a := ⟨w.heap.size, 0, none⟩) (hG.block w.heap.size (by omega) (fun e => by have := Option.some.inj e; omega))).trans a0
          have qa1 := (World.cell?_of_block (a := ⟨w.heap.size, 1, none⟩) (hG.block w.heap.size (by omega) (fun e => by have := Option.some.inj e; omega))).trans a1
          have qb0 := (World.cell?_of_block (a := ⟨w.heap.size + 1, 0, none⟩) (hG.block (w.heap.size + 1) (by omega) (fun e => by have := Option.some.inj e; omega))).trans b0
          have qb1 := (World.cell?_of_block (a := ⟨w.heap.size + 1, 1, none⟩) (hG.block (w.heap.size + 1) (by omega) (fun e => by have := Option.some.inj e; omega))).trans b1
          have hc0 : (0 : Int) ≤ (c : Int) := by omega
          have hcn : (c : Int) < (nb : Int) := by omega
          have ra5 : Hid (∀ y : Over (wr.alloc (.cells #[.string zs, .int .i64 zk] 109)), Rd (over _ y) aa (ses fa)) := hid (fun y => rd_over (rd_far hra hb1 hG hfarSA.out ((Below.refl _ _).alloc (Nat.le_refl _) _)))
          have rb5 : Hid (∀ y : Over (wr.alloc (.cells #[.string zs, .int .i64 zk] 109)), Rd (over _ y) (some ⟨b, o, none⟩) (ses fb)) := hid (fun y => rd_over (rd_far hrb hb1 hG hfarSB.out ((Below.refl _ _).alloc (Nat.le_refl _) _)))
          have z1 : w.heap.size < wr.heap.size + 1 := by omega
          have z3 : w.heap.size < wr.heap.size := by omega
          have z4 : w.heap.size + 1 < wr.heap.size := by omega
          have z2 : w.heap.size + 1 < wr.heap.size + 1 := by omega
          have hH5 := hH.below ((Below.refl wr.heap.size wr).alloc (Nat.le_refl _) (.cells #[.string zs, .int .i64 zk] 109))
          have hG5 := hG.trans (World.grownBy_alloc wr (.cells #[.string zs, .int .i64 zk] 109) (some g))
          obtain ⟨ka, hka⟩ : ∃ r, r = kindI fa zs := ⟨_, rfl⟩
          obtain ⟨kb, hkb⟩ : ∃ r, r = kindI fb zs := ⟨_, rfl⟩
          have KA := hid hka.symm
          have KB := hid hkb.symm
          by_cases hk : ka = kb
          · have hn1 := hid (hno.out (difK_no (by rw [← hka, ← hkb]; exact hk)))
            have e1 := neI_false hk
            clear hk hka hkb
            go_wp2_with fail
            refine wp_region_over (by kernel_rfl) (by kernel_rfl) (fun hov => ?_)
            repeat (go_big_quiet_step ((first | (go_at_call 62; with_reducible exact overCall (kindW_b xa _ na ca fa zs _ HNA.out (ra5.out _) hma KA.out)) | (go_at_call 62; with_reducible exact overCall (kindW_b xb _ nb cb fb zs _ HNB.out (rb5.out _) hmb KB.out)))))
            refine wpQuiet_nil ?_
            intro w5 hb5
            clear hov
            go_wp2
            go_roundw
            case rel => exact ⟨c + 1, by omega, by go_num, by rw [hn1.out]; exact hH5.below hb5, hG5.trans (grown_of_below hb5)⟩
            case measure => simp [intOf]; omega
          · have hn1 := hid (hy.out (difK_yes (by rw [← hka, ← hkb]; exact hk)))
            have e1 := neI_true hk
            have hzs : zs.size = 1 := hone
            have hz0 : (0 : Int) < (zs.size : Int) := by omega
            have hz00 : 0 < zs.size := by omega
            have hhd := headN_get hz00
            have HHD := hid hhd
            have hi0 : (0 : Int) ≤ ((zs[0].toNat : Nat) : Int) := by omega
            have h256 : zs[0].toNat < 256 := UInt8.toNat_lt _
            have hi1 : ((zs[0].toNat : Nat) : Int) < 256 := by omega
            clear hk hka hkb hhd hone
            go_wp2_with fail
            refine wp_region_over (by kernel_rfl) (by kernel_rfl) (fun hov => ?_)
            repeat (go_big_quiet_step ((first | (go_at_call 62; with_reducible exact overCall (kindW_b xa _ na ca fa zs _ HNA.out (ra5.out _) hma KA.out)) | (go_at_call 62; with_reducible exact overCall (kindW_b xb _ nb cb fb zs _ HNB.out (rb5.out _) hmb KB.out)))))
            refine wpQuiet_nil ?_
            intro w5 hb5
            clear hov
            have hH6 := hH5.below hb5
            have hG6 := hG5.trans (grown_of_below hb5)
            have hcm := hH6.cell h256
            have hfz := hH6.frozen zs[0].toNat
            have q9 : w5.cell? ⟨wr.heap.size, 0, none⟩ = some (.string zs) := (hb5.cell (p := ⟨wr.heap.size, 0, none⟩) (by simp)).trans (by simp)
            clear hG5 hH5 hH hG
            go_wp2_with fail
            go_region
            go_wp2
            go_roundw
            case rel => exact ⟨c + 1, by omega, by go_num, by rw [hn1.out, HHD.out]; exact hH6.store _ _, (hG6.trans (grownBy_set _ _ _ _)).trans (grownBy_drew _ _)⟩
            case measure => simp [intOf]; omega
        · obtain rfl : c = nb := by omega
          have hl := hid (show mkW (difK fa fb) (mkW (difK fa fb) ms fa fa.length) fb fb.length = mkW (difK fa fb) (mkW (difK fa fb) ms fa fa.length) fb c by rw [← HNB.out])
          go_wp2
          go_roundw
          case rel => exact ⟨2, by omega, by go_num, by show HoldsM _ _ _ (stA ms fa fb 2); rw [show stA ms fa fb 2 = mkW (difK fa fb) (mkW (difK fa fb) ms fa fa.length) fb fb.length from rfl, hl.out]; exact hH, hG⟩
          case measure => simp [intOf]
    · go_wp2
      go_end0
      exact ⟨rfl, hH, (grown_of_below hb1).trans hG⟩
end Go.Proofs.Ythhpeanlpikjbaa
