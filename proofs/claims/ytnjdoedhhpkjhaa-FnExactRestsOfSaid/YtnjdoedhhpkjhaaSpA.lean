/-
  The walk of the reference's put: one rest laid down, or its text taken if it is a better one.
-/
import Derived.Test.YtnjdoedhhpkjhaaSpMath
import Derived.Test.YtnjdoedhhpkjhaaRestB
import Derived.OneCell
namespace Go.Proofs.Ytnjdoedhhpkjhaa
open Go.RowKit Go.ChangeShapes Go.WideShapes Go.Maps
set_option linter.unusedVariables false
attribute [local go_sem ↓] Go.wp_at_zero Go.wp_at_succ

def keysL (S : List Am) : List ByteArray := S.map (·.2)
def textsL (S : List Am) : List ByteArray := S.map (·.1)
theorem keysL_len (S : List Am) : (keysL S).length = S.length := by simp [keysL]
theorem textsL_len (S : List Am) : (textsL S).length = S.length := by simp [textsL]
/-- two rows of texts and a mark, as they lie at p -/
structure Rs2 (B p nr nt : Nat) (LR LT : List ByteArray) (vr vt : Value) (b : Bool) (w : World) : Prop where
  c0 : w.cell? ⟨p, 0, none⟩ = some vr
  c1 : w.cell? ⟨p, 1, none⟩ = some vt
  c2 : w.cell? ⟨p, 2, none⟩ = some (.bool b)
  fr : ∀ i, w.frozen? ⟨p, i, none⟩ = false
  lt : p < w.heap.size
  bp : B ≤ p
  rrow : w.ownsRow B 9 1 vr nr (strs LR)
  trow : w.ownsRow B 9 1 vt nt (strs LT)
  rp : vr.ownBlock ≠ some p
  tp : vt.ownBlock ≠ some p
  rt : vt.ownBlock = none ∨ vt.ownBlock ≠ vr.ownBlock
theorem grown_frozenA {w w' : World} {row : Option Nat} {b i : Nat} (h : w.grownBy w' row) (hb : b < w.heap.size) (hne : some b ≠ row) : w'.frozen? ⟨b, i, none⟩ = w.frozen? ⟨b, i, none⟩ :=
  World.frozen?_of_block (h.block b hb hne)
theorem fresh_ne {w : World} {B : Nat} {E : TypeId} {v v' : Value} {n : Nat} {xs : List Value} (h : w.ownsRow B E 1 v n xs) {k : Nat} (hk : w.heap.size ≤ k) (he : v'.ownBlock = some k) : v.ownBlock = none ∨ v.ownBlock ≠ v'.ownBlock := by
  cases e : v.ownBlock with
  | none => exact .inl rfl
  | some q =>
    right
    rw [he]
    intro e2
    have := (h.lt q e).2
    simp at e2
    omega
theorem Rs2.grow0 {B p nr nt nr' : Nat} {LR LT LR' : List ByteArray} {vr vt v1 : Value} {b : Bool} {w w1 : World} {o : Obj} (h : Rs2 B p nr nt LR LT vr vt b w) (hg : (w.alloc o).grownBy w1 vr.ownBlock) (ho : w1.ownsRow B 9 1 v1 nr' (strs LR')) (hat : v1.ownBlock = vr.ownBlock ∨ v1.ownBlock = some (w.alloc o).heap.size) :
    w1.cell? ⟨p, 0, none⟩ = some vr ∧ w1.frozen? ⟨p, 0, none⟩ = false ∧ Rs2 B p nr' nt LR' LT v1 vt b (w1.setCell ⟨p, 0, none⟩ v1) := by
  have hA : Below w.heap.size w (w.alloc o) := (Below.refl _ _).alloc (Nat.le_refl _) _
  have hpA : p < (w.alloc o).heap.size := Nat.lt_of_lt_of_le h.lt hA.size
  have hne : some p ≠ vr.ownBlock := fun e => h.rp e.symm
  have hc : ∀ i u, w.cell? ⟨p, i, none⟩ = some u → w1.cell? ⟨p, i, none⟩ = some u := fun i u hu => grown_cell hg ((hA.cell (p := ⟨p, i, none⟩) h.lt).trans hu) hne
  have hf : ∀ i, w1.frozen? ⟨p, i, none⟩ = false := fun i => (grown_frozenA hg hpA hne).trans ((hA.frozen (p := ⟨p, i, none⟩) h.lt).trans (h.fr i))
  have h1p : v1.ownBlock ≠ some p := by
    rcases hat with e | e
    · rw [e]; exact h.rp
    · rw [e]; intro e2; simp at e2; have := h.lt; omega
  have hrt : vt.ownBlock = none ∨ vt.ownBlock ≠ v1.ownBlock := by
    rcases hat with e | e
    · rw [e]; exact h.rt
    · exact fresh_ne h.trow (by simp) e
  have htk : w1.ownsRow B 9 1 vt nt (strs LT) := (h.trow.alloc o).kept hg h.rt
  refine ⟨hc 0 _ h.c0, hf 0, ⟨World.cell?_setCell_same _ _ _ (hc 0 _ h.c0), ?_, ?_, ?_, ?_, h.bp, ownsRow_setCell_other ho h1p _, ownsRow_setCell_other htk h.tp _, h1p, h.tp, hrt⟩⟩
  · rw [World.cell?_setCell_other _ _ _ _ (by simp)]; exact hc 1 _ h.c1
  · rw [World.cell?_setCell_other _ _ _ _ (by simp)]; exact hc 2 _ h.c2
  · intro i; rw [World.frozen?_setCell]; exact hf i
  · have := hg.size; simp; omega
theorem Rs2.grow1 {B p nr nt nt' : Nat} {LR LT LT' : List ByteArray} {vr vt v1 : Value} {b : Bool} {w w1 : World} {o : Obj} (h : Rs2 B p nr nt LR LT vr vt b w) (hg : (w.alloc o).grownBy w1 vt.ownBlock) (ho : w1.ownsRow B 9 1 v1 nt' (strs LT')) (hat : v1.ownBlock = vt.ownBlock ∨ v1.ownBlock = some (w.alloc o).heap.size) :
    w1.cell? ⟨p, 1, none⟩ = some vt ∧ w1.frozen? ⟨p, 1, none⟩ = false ∧ Rs2 B p nr nt' LR LT' vr v1 b (w1.setCell ⟨p, 1, none⟩ v1) := by
  have hA : Below w.heap.size w (w.alloc o) := (Below.refl _ _).alloc (Nat.le_refl _) _
  have hpA : p < (w.alloc o).heap.size := Nat.lt_of_lt_of_le h.lt hA.size
  have hne : some p ≠ vt.ownBlock := fun e => h.tp e.symm
  have hc : ∀ i u, w.cell? ⟨p, i, none⟩ = some u → w1.cell? ⟨p, i, none⟩ = some u := fun i u hu => grown_cell hg ((hA.cell (p := ⟨p, i, none⟩) h.lt).trans hu) hne
  have hf : ∀ i, w1.frozen? ⟨p, i, none⟩ = false := fun i => (grown_frozenA hg hpA hne).trans ((hA.frozen (p := ⟨p, i, none⟩) h.lt).trans (h.fr i))
  have h1p : v1.ownBlock ≠ some p := by
    rcases hat with e | e
    · rw [e]; exact h.tp
    · rw [e]; intro e2; simp at e2; have := h.lt; omega
  have hrk0 : vr.ownBlock = none ∨ vr.ownBlock ≠ vt.ownBlock := by
    rcases h.rt with e | e
    · rw [e]
      cases hv : vr.ownBlock
      · exact .inl rfl
      · exact .inr (by simp)
    · exact .inr (fun e2 => e e2.symm)
  have hrt : v1.ownBlock = none ∨ v1.ownBlock ≠ vr.ownBlock := by
    rcases hat with e | e
    · rw [e]; exact h.rt
    · rcases fresh_ne (v' := v1) h.rrow (by simp) e with e2 | e2
      · rw [e2, e]; exact .inr (by simp)
      · exact .inr (fun e3 => e2 e3.symm)
  have hrk : w1.ownsRow B 9 1 vr nr (strs LR) := (h.rrow.alloc o).kept hg hrk0
  refine ⟨hc 1 _ h.c1, hf 1, ⟨?_, World.cell?_setCell_same _ _ _ (hc 1 _ h.c1), ?_, ?_, ?_, h.bp, ownsRow_setCell_other hrk h.rp _, ownsRow_setCell_other ho h1p _, h.rp, h1p, hrt⟩⟩
  · rw [World.cell?_setCell_other _ _ _ _ (by simp)]; exact hc 0 _ h.c0
  · rw [World.cell?_setCell_other _ _ _ _ (by simp)]; exact hc 2 _ h.c2
  · intro i; rw [World.frozen?_setCell]; exact hf i
  · have := hg.size; simp; omega
theorem Rs2.flag {B p nr nt : Nat} {LR LT : List ByteArray} {vr vt : Value} {b : Bool} (c : Bool) {w : World} (h : Rs2 B p nr nt LR LT vr vt b w) : Rs2 B p nr nt LR LT vr vt c (w.setCell ⟨p, 2, none⟩ (.bool c)) := by
  refine ⟨?_, ?_, World.cell?_setCell_same _ _ _ h.c2, ?_, ?_, h.bp, ownsRow_setCell_other h.rrow h.rp _, ownsRow_setCell_other h.trow h.tp _, h.rp, h.tp, h.rt⟩
  · rw [World.cell?_setCell_other _ _ _ _ (by simp)]; exact h.c0
  · rw [World.cell?_setCell_other _ _ _ _ (by simp)]; exact h.c1
  · intro i; rw [World.frozen?_setCell]; exact h.fr i
  · simpa using h.lt
theorem Rs2.text {B p nr nt g c j : Nat} {LR LT : List ByteArray} {vr : Value} {b : Bool} {w : World} (h : Rs2 B p nr nt LR LT vr (.slice (some ⟨g, 0, none⟩) nt c) b w) (t : ByteArray) : Rs2 B p nr nt LR (LT.set j t) vr (.slice (some ⟨g, 0, none⟩) nt c) b (w.setCell ⟨g, j, none⟩ (.string t)) := by
  have hgp : g ≠ p := fun e => h.tp (by rw [e]; rfl)
  have hrg : vr.ownBlock ≠ some g := by
    rcases h.rt with e | e
    · cases e
    · exact fun e2 => e e2.symm
  refine ⟨?_, ?_, ?_, ?_, ?_, h.bp, ownsRow_setCell_other h.rrow hrg _, ?_, h.rp, h.tp, h.rt⟩
  · rw [World.cell?_setCell_other _ _ _ _ (by simp)]; exact h.c0
  · rw [World.cell?_setCell_other _ _ _ _ (by simp)]; exact h.c1
  · rw [World.cell?_setCell_other _ _ _ _ (by simp)]; exact h.c2
  · intro i; rw [World.frozen?_setCell]; exact h.fr i
  · simpa using h.lt
  · have e : strs (LT.set j t) = (strs LT).set j (.string t) := by simp [strs, List.map_set]
    rw [e]
    exact (h.trow.stored j _).1
theorem Rs2.below {B p nr nt : Nat} {LR LT : List ByteArray} {vr vt : Value} {b : Bool} {w w' : World} (h : Rs2 B p nr nt LR LT vr vt b w) (hb : Below w.heap.size w w') : Rs2 B p nr nt LR LT vr vt b w' :=
  ⟨(hb.cell (p := ⟨p, 0, none⟩) h.lt).trans h.c0, (hb.cell (p := ⟨p, 1, none⟩) h.lt).trans h.c1, (hb.cell (p := ⟨p, 2, none⟩) h.lt).trans h.c2, fun i => (hb.frozen (p := ⟨p, i, none⟩) h.lt).trans (h.fr i), Nat.lt_of_lt_of_le h.lt hb.size, h.bp, owns_below h.rrow hb, owns_below h.trow hb, h.rp, h.tp, h.rt⟩
/-- the rests and their texts, as they lie at p -/
def RsAt (B p : Nat) (S : List Am) (b : Bool) (w : World) : Prop :=
  ∃ ra rc ta tc, Rs2 B p S.length S.length (keysL S) (textsL S) (.slice ra S.length rc) (.slice ta S.length tc) b w
theorem idx_cases (S : List Am) (r : ByteArray) : (keyOn S r = false ∧ idxI (keysL S) r = -1) ∨ (∃ j, ∃ hj : j < S.length, idxI (keysL S) r = (j : Int) ∧ S[j].2 = r) := by
  unfold idxI
  cases h : firstAt (eqAt (keysL S) r) (keysL S).length with
  | none =>
    left
    refine ⟨?_, rfl⟩
    unfold firstAt at h
    rw [List.find?_range_eq_none] at h
    unfold keyOn
    rw [List.any_eq_false]
    intro x hx
    obtain ⟨j, hj, rfl⟩ := List.getElem_of_mem hx
    have h2 := h j (by rw [keysL_len]; exact hj)
    rw [eqAt_get (by rw [keysL_len]; exact hj)] at h2
    simpa [keysL] using h2
  | some k =>
    right
    unfold firstAt at h
    rw [List.find?_range_eq_some] at h
    have hk : k < (keysL S).length := by simpa using h.2.1
    have h1 := h.1
    rw [eqAt_get hk] at h1
    refine ⟨k, by rw [← keysL_len]; exact hk, rfl, tl_eq ?_⟩
    simpa [keysL] using h1
theorem own_some {w : World} {B : Nat} {E : TypeId} {v : Value} {k : Nat} {xs : List Value} (h : w.ownsRow B E 1 v (k + 1) xs) : ∃ g c, v = .slice (some ⟨g, 0, none⟩) (k + 1) c ∧ B ≤ g ∧ g < w.heap.size := by
  rcases owns_form h with ⟨_, h0, _⟩ | ⟨g, c, rfl, hg, hl, _⟩
  · omega
  · exact ⟨g, c, rfl, hg, hl⟩
theorem one_newS (w : World) (a : Addr) (v x : Value) (t : TypeId) : ∀ j u, [x][j]? = some u → ((w.setCell a v).alloc (.cells #[x] t)).cell? ((⟨w.heap.size, 0, none⟩ : Addr).add j) = some u := by
  have h := one_new (w.setCell a v) x t
  have e : (w.setCell a v).heap.size = w.heap.size := by simp
  rwa [e] at h
set_option maxRecDepth 100000 in
set_option maxHeartbeats 8000000 in
theorem put_any (B p : Nat) (S : List Am) (b : Bool) (r t : ByteArray) (w : World) (h : RsAt B p S b w) (hB : B ≤ w.heap.size) (hlen : S.length ≤ 1000) (hr : r.size ≤ maxLen) (ht : t.size ≤ maxLen) (hs : ∀ x ∈ S, x.1.size ≤ maxLen) :
    Calls Try.prog 67 #[.pointer (some ⟨p, 0, none⟩), .string r, .string t] w fun e w' => ∃ S' c, PutTo S (t, r) S' c ∧ e = .returned (.tuple #[]) ∧ RsAt B p S' (b || c) w' ∧ Below B w w' := by
  obtain ⟨i0, hi, hz0, hz1, hz2⟩ := info_parts Try.infoStr
  obtain ⟨ra, rc, ta, tc, H0⟩ := h
  obtain ⟨n, hn⟩ : ∃ n, n = S.length := ⟨_, rfl⟩
  have HN := hid hn
  rw [← hn] at H0 hlen
  clear hn
  have c0 := H0.c0
  have c1 := H0.c1
  have c2 := H0.c2
  have hf0 := H0.fr 0
  have hf1 := H0.fr 1
  have hf2 := H0.fr 2
  rcases idx_cases S r with ⟨hko, hix⟩ | ⟨j, hj, hix, hjr⟩
  · have HKO := hid hko
    clear hko
    go_enter Try.func67, Try.ntmps67
    go_wp2_with (first
      | (go_at_call 65; refine (index_b ra n rc (keysL S) r _ (by rw [keysL_len]; exact HN.out) (owns_rdN H0.rrow) (by omega) hix).mono ?_; rintro e w' ⟨rfl, rfl⟩)
      | (at_builtin; refine wpList_append_own_at _ rfl _ _ 34 rfl B 9 i0 (.string ByteArray.empty) 1 16 Try.underlying34 hi hz0 hz1 hz2 rfl (by decide) (.slice ra n rc) n (strs (keysL S)) rfl (H0.rrow.alloc _) ⟨w.heap.size, 0, none⟩ 1 1 [.string r] rfl rfl (one_new _ _ _) (one_okS _) (by unfold maxLen; omega) (by omega) (by simp; omega) ?_
         intro v1 w1 ho1 hg1 _ hat1
         obtain ⟨g1, k1, rfl, hg1B, hg1l⟩ := own_some ho1
         rw [← strs_snoc] at ho1
         obtain ⟨q0, qf0, H1⟩ := H0.grow0 hg1 ho1 hat1
         have q1 := H1.c1)
      | (at_builtin; refine wpList_append_own_at _ rfl _ _ 34 rfl B 9 i0 (.string ByteArray.empty) 1 16 Try.underlying34 hi hz0 hz1 hz2 rfl (by decide) (.slice ta n tc) n (strs (textsL S)) rfl (H1.trow.alloc _) ⟨w1.heap.size, 0, none⟩ 1 1 [.string t] rfl rfl (one_newS _ _ _ _ _) (one_okS _) (by unfold maxLen; omega) (by omega) (by have := hg1.size; simp at this; simp; omega) ?_
         intro v2 w2 ho2 hg2 _ hat2
         obtain ⟨g2, k2, rfl, hg2B, hg2l⟩ := own_some ho2
         rw [← strs_snoc] at ho2
         obtain ⟨p0, pf0, H2⟩ := H1.grow1 hg2 ho2 hat2
         have p2 := H2.c2
         have pf2 := H2.fr 2))
    refine bodyPost_ret (results_none rfl _ _ _) rfl ?_
    refine ⟨S ++ [(t, r)], true, .inl ⟨HKO.out, rfl, rfl⟩, rfl, ?_, ?_⟩
    · rw [Bool.or_true]
      have e1 : (S ++ [(t, r)]).length = n + 1 := by rw [List.length_append, ← HN.out]; rfl
      have e2 : keysL (S ++ [(t, r)]) = keysL S ++ [r] := by simp [keysL]
      have e3 : textsL (S ++ [(t, r)]) = textsL S ++ [t] := by simp [textsL]
      refine ⟨some ⟨g1, 0, none⟩, k1, some ⟨g2, 0, none⟩, k2, ?_⟩
      rw [e1, e2, e3]
      exact H2.flag true
    · have hb1 : Below B w w1 := below_grown ((Below.refl B w).alloc hB _) (by simp; omega) (H0.rrow.alloc _) hg1
      have hb1' : Below B w (w1.setCell ⟨p, 0, none⟩ (.slice (some ⟨g1, 0, none⟩) (n + 1) k1)) := hb1.setCell H0.bp (.slice (some ⟨g1, 0, none⟩) (n + 1) k1)
      have hb2 : Below B w w2 := below_grown (hb1'.alloc (Nat.le_trans hB hb1'.size) _) (by have := hb1'.size; simp at this; simp; omega) (H1.trow.alloc _) hg2
      exact (hb2.setCell H0.bp _).setCell H0.bp _
  · have hgt : ∃ g, ta = some ⟨g, 0, none⟩ ∧ B ≤ g := by
      rcases owns_form H0.trow with ⟨_, h0, _⟩ | ⟨g, c, hv, hg, _⟩
      · rw [HN.out] at h0; omega
      · simp only [Value.slice.injEq] at hv
        exact ⟨g, hv.1, hg⟩
    obtain ⟨g, rfl, hgB⟩ := hgt
    have hjn : j < n := by rw [HN.out]; exact hj
    have d0 : w.cell? ⟨g, j, none⟩ = some (.string S[j].1) := by
      rw [H0.trow.cellAt j (by omega)]
      simp [strs, textsL, hj]
    have df := H0.trow.frozenAt j
    have hss := hs _ (List.getElem_mem hj)
    have hj0 : (0 : Int) ≤ (j : Int) := by omega
    have hjn1 : (j : Int) < (n : Int) := by omega
    have HJR := hid hjr
    obtain ⟨o, ho⟩ : ∃ o, o = S[j].1 := ⟨_, rfl⟩
    rw [← ho] at d0 hss
    have HO := hid ho
    clear hjr ho
    have ht' := ht
    have hss' := hss
    unfold maxLen at ht' hss'
    have H1 := H0.text (j := j) t
    have q2 := H1.c2
    have qf2 := H1.fr 2
    by_cases hlt : rk t < rk o
    · have hput := hid (show PutTo S (t, r) (S.set j (t, r)) true from .inr ⟨j, hj, HJR.out, .inl ⟨by rw [← HO.out]; exact hlt, rfl, rfl⟩⟩)
      have hst := hid (show RsAt B p (S.set j (t, r)) true ((w.setCell ⟨g, j, none⟩ (.string t)).setCell ⟨p, 2, none⟩ (.bool true)) from by
        have e1 : (S.set j (t, r)).length = n := by rw [List.length_set]; exact HN.out.symm
        have e2 : keysL (S.set j (t, r)) = keysL S := set_keys hj HJR.out
        have e3 : textsL (S.set j (t, r)) = (textsL S).set j t := by simp [textsL, List.map_set]
        refine ⟨ra, rc, some ⟨g, 0, none⟩, tc, ?_⟩
        rw [e1, e2, e3]
        exact H1.flag true)
      have hsz := rk_size (Nat.le_of_lt hlt)
      rcases (show t.size < o.size ∨ t.size = o.size from by omega) with h1 | h1
      · have e1 : (t.size : Int) < (o.size : Int) := by omega
        go_enter Try.func67, Try.ntmps67
        go_wp2_with (go_at_call 65; refine (index_b ra n rc (keysL S) r _ (by rw [keysL_len]; exact HN.out) (owns_rdN H0.rrow) (by omega) hix).mono ?_; rintro e w' ⟨rfl, rfl⟩)
        go_end0
        exact ⟨_, _, hput.out, rfl, by rw [Bool.or_true]; exact hst.out, ((Below.refl B w).setCell hgB _).setCell H0.bp _⟩
      · have e1 : ¬ (t.size : Int) < (o.size : Int) := by omega
        have e2 : ((t.size : Int) == (o.size : Int)) = true := by simp; omega
        have e3 : Op.bytesLess t.toList o.toList = true := by rw [less_same h1]; exact decide_eq_true hlt
        clear h1
        go_enter Try.func67, Try.ntmps67
        go_wp2_with (go_at_call 65; refine (index_b ra n rc (keysL S) r _ (by rw [keysL_len]; exact HN.out) (owns_rdN H0.rrow) (by omega) hix).mono ?_; rintro e w' ⟨rfl, rfl⟩)
        go_end0
        exact ⟨_, _, hput.out, rfl, by rw [Bool.or_true]; exact hst.out, ((Below.refl B w).setCell hgB _).setCell H0.bp _⟩
    · have hput := hid (show PutTo S (t, r) S false from .inr ⟨j, hj, HJR.out, .inr ⟨by rw [← HO.out]; exact hlt, rfl, rfl⟩⟩)
      have hst := hid (show RsAt B p S b w from ⟨ra, rc, some ⟨g, 0, none⟩, tc, by rw [← HN.out]; exact H0⟩)
      have hnl : ¬ t.size < o.size := fun h1 => hlt (less_size h1)
      rcases (show o.size < t.size ∨ t.size = o.size from by omega) with h1 | h1
      · have e1 : ¬ (t.size : Int) < (o.size : Int) := by omega
        have e2 : ((t.size : Int) == (o.size : Int)) = false := by simp; omega
        go_enter Try.func67, Try.ntmps67
        go_wp2_with (go_at_call 65; refine (index_b ra n rc (keysL S) r _ (by rw [keysL_len]; exact HN.out) (owns_rdN H0.rrow) (by omega) hix).mono ?_; rintro e w' ⟨rfl, rfl⟩)
        go_end0
        exact ⟨_, _, hput.out, rfl, by rw [Bool.or_false]; exact hst.out, Below.refl _ _⟩
      · have e1 : ¬ (t.size : Int) < (o.size : Int) := by omega
        have e2 : ((t.size : Int) == (o.size : Int)) = true := by simp; omega
        have e3 : Op.bytesLess t.toList o.toList = false := by rw [less_same h1]; exact decide_eq_false hlt
        clear h1
        go_enter Try.func67, Try.ntmps67
        go_wp2_with (go_at_call 65; refine (index_b ra n rc (keysL S) r _ (by rw [keysL_len]; exact HN.out) (owns_rdN H0.rrow) (by omega) hix).mono ?_; rintro e w' ⟨rfl, rfl⟩)
        go_end0
        exact ⟨_, _, hput.out, rfl, by rw [Bool.or_false]; exact hst.out, Below.refl _ _⟩
end Go.Proofs.Ytnjdoedhhpkjhaa
