/-
  The faults that one machine alone has: plain facts.
-/
import Derived.Test.YtnjdoedhhpkjhaaSortS
import Derived.Test.YtnjdoedhhpkjhaaWsV
import Derived.Sort.Statements
namespace Go.Proofs.Ytnjdoedhhpkjhaa
set_option linter.unusedVariables false

theorem ba_beq (a b : ByteArray) : (a == b) = (a.data == b.data) := by
  cases a; cases b; rfl
instance : LawfulBEq ByteArray where
  eq_of_beq {a b} h := by
    rw [ba_beq] at h
    have := eq_of_beq h
    cases a; cases b; simpa using this
  rfl {a} := by rw [ba_beq]; exact beq_self_eq_true _

/-- the order of faults: by letter, then by kind -/
def seLt (x y : Se) : Bool := if x.1 = y.1 then decide (x.2 < y.2) else ltT x.1 y.1
theorem seLt_same {x y : Se} (h : x.1 = y.1) : seLt x y = decide (x.2 < y.2) := by unfold seLt; rw [if_pos h]
theorem seLt_other {x y : Se} (h : ¬ x.1 = y.1) : seLt x y = ltT x.1 y.1 := by unfold seLt; rw [if_neg h]
theorem seLt_irr (x : Se) : seLt x x = false := by rw [seLt_same rfl]; simp
theorem seLt_trans {x y z : Se} (h1 : seLt x y = true) (h2 : seLt y z = true) : seLt x z = true := by
  by_cases a : x.1 = y.1
  · rw [seLt_same a] at h1
    by_cases b : y.1 = z.1
    · rw [seLt_same b] at h2
      rw [seLt_same (a.trans b)]
      have h3 := of_decide_eq_true h1
      have h4 := of_decide_eq_true h2
      exact decide_eq_true (by omega)
    · rw [seLt_other b] at h2
      rw [seLt_other (by rw [a]; exact b), a]
      exact h2
  · rw [seLt_other a] at h1
    by_cases b : y.1 = z.1
    · rw [seLt_other (by rw [← b]; exact a), ← b]; exact h1
    · rw [seLt_other b] at h2
      have h3 := ltT_trans h1 h2
      rw [seLt_other (fun e => by rw [e, ltT_irr] at h3; cases h3)]
      exact h3
theorem seLt_or {x y : Se} (h : seLt x y = false) (hne : x ≠ y) : seLt y x = true := by
  by_cases a : x.1 = y.1
  · rw [seLt_same a] at h
    rw [seLt_same a.symm]
    have h1 := of_decide_eq_false h
    have h2 : x.2 ≠ y.2 := fun e => hne (Prod.ext a e)
    exact decide_eq_true (by omega)
  · rw [seLt_other a] at h
    rw [seLt_other (fun e => a e.symm)]
    exact ltT_or h a
theorem seLt_swo : Go.Sort.SWO seLt where
  irrefl := seLt_irr
  trans := fun _ _ _ => seLt_trans
  ntrans := fun x y z h1 h2 => by
    cases h : seLt x z
    · rfl
    · by_cases a : y = z
      · subst a; rw [h1] at h; cases h
      · have := seLt_trans h (seLt_or h2 a)
        rw [h1] at this; cases this

def RiseSe (L : List Se) : Prop := L.Pairwise fun a b => seLt a b = true
theorem riseSe_uniq : ∀ {L M : List Se}, RiseSe L → RiseSe M → (∀ x, x ∈ L ↔ x ∈ M) → L = M
  | [], [], _, _, _ => rfl
  | [], y :: M, _, _, h => by have := (h y).2 List.mem_cons_self; cases this
  | x :: L, [], _, _, h => by have := (h x).1 List.mem_cons_self; cases this
  | x :: L, y :: M, hL, hM, h => by
    obtain ⟨hL1, hL2⟩ := List.pairwise_cons.1 hL
    obtain ⟨hM1, hM2⟩ := List.pairwise_cons.1 hM
    have e : x = y := by
      rcases List.mem_cons.1 ((h x).1 List.mem_cons_self) with e | hx
      · exact e
      · rcases List.mem_cons.1 ((h y).2 List.mem_cons_self) with e | hy
        · exact e.symm
        · have := seLt_trans (hL1 y hy) (hM1 x hx)
          rw [seLt_irr] at this; cases this
    subst e
    have hLM : ∀ z, z ∈ L ↔ z ∈ M := by
      intro z
      constructor
      · intro hz
        rcases List.mem_cons.1 ((h z).1 (List.mem_cons_of_mem _ hz)) with e | h2
        · subst e
          have := hL1 z hz
          rw [seLt_irr] at this; cases this
        · exact h2
      · intro hz
        rcases List.mem_cons.1 ((h z).2 (List.mem_cons_of_mem _ hz)) with e | h2
        · subst e
          have := hM1 z hz
          rw [seLt_irr] at this; cases this
        · exact h2
    rw [riseSe_uniq hL2 hM2 hLM]

/-! ### what a valid machine is -/
theorem pair_adj {l : List Se} (h : ∀ j (hj : j + 1 < l.length), ltT l[j].1 l[j + 1].1 = true) : ∀ d i (hj : i + d + 1 < l.length), ltT (l[i]'(by omega)).1 (l[i + d + 1]'hj).1 = true
  | 0, i, hj => h i hj
  | d + 1, i, hj => ltT_trans (pair_adj h d i (by omega)) (h (i + d + 1) hj)
theorem one_facts {x : ByteArray} {l : List Se} (h : oneB x l = true) : (∀ y ∈ l, letB y.1 = true ∧ inB y.2 1 6 = true) ∧ l.Pairwise (fun a b => ltT a.1 b.1 = true) ∧ l.length ≤ 10 := by
  unfold oneB at h
  rw [Bool.and_eq_true, Bool.and_eq_true] at h
  obtain ⟨_, h10, h⟩ := h
  rw [Option.isNone_iff_eq_none] at h
  unfold firstAt at h
  rw [List.find?_range_eq_none] at h
  have hk : ∀ k (hk : k < l.length), badF l k = false := fun k hk => by have := h k hk; simpa using this
  have h1 : ∀ k (hk : k < l.length), (!(letB l[k].1) || !(inB l[k].2 1 6)) = false := by
    intro k hkl
    have := hk k hkl
    unfold badF at this
    rw [dif_pos hkl, Bool.or_eq_false_iff] at this
    exact this.1
  refine ⟨?_, ?_, of_decide_eq_true h10⟩
  · intro y hy
    obtain ⟨k, hkl, rfl⟩ := List.getElem_of_mem hy
    have := h1 k hkl
    rw [Bool.or_eq_false_iff] at this
    simpa using this
  · have hadj : ∀ j (hj : j + 1 < l.length), ltT l[j].1 l[j + 1].1 = true := by
      intro j hj
      have := hk (j + 1) hj
      rw [badF_next hj (h1 _ hj)] at this
      unfold geB at this
      unfold ltT
      simpa using this
    rw [List.pairwise_iff_getElem]
    intro i j hi hj hij
    have := pair_adj hadj (j - i - 1) i (by omega)
    have e : i + (j - i - 1) + 1 = j := by omega
    simp only [e] at this
    exact this
theorem okWs_facts {A : List WsD} (h : okWs A = true) : (∀ x ∈ A, oneB x.1 x.2 = true) ∧ A.length ≤ 12 := by
  unfold okWs at h
  rw [Bool.and_eq_true] at h
  obtain ⟨h, h12⟩ := h
  rw [Option.isNone_iff_eq_none] at h
  unfold firstAt at h
  rw [List.find?_range_eq_none] at h
  refine ⟨?_, of_decide_eq_true h12⟩
  intro x hx
  obtain ⟨k, hkl, rfl⟩ := List.getElem_of_mem hx
  have := h k hkl
  unfold badW at this
  rw [dif_pos hkl] at this
  cases hc : oneB A[k].1 A[k].2
  · rw [hc] at this; simp at this
  · rfl

/-! ### the kind of a letter -/
theorem kind_iff {l : List Se} (hp : l.Pairwise (fun a b => ltT a.1 b.1 = true)) {s : ByteArray} {k : Int} (h1 : 1 ≤ k) : kindI l s = k ↔ (s, k) ∈ l := by
  unfold kindI
  cases h : firstAt (sameAt l s) l.length with
  | none =>
    unfold firstAt at h
    rw [List.find?_range_eq_none] at h
    constructor
    · intro e; dsimp only at e; omega
    · intro hm
      obtain ⟨j, hj, e⟩ := List.getElem_of_mem hm
      have := h j hj
      rw [sameAt_get hj, e] at this
      simp at this
  | some j =>
    unfold firstAt at h
    rw [List.find?_range_eq_some] at h
    obtain ⟨h2, h3, h4⟩ := h
    have hj : j < l.length := List.mem_range.1 h3
    rw [sameAt_get hj] at h2
    have h5 : l[j].1 = s := ext_tl (by simpa using h2)
    dsimp only
    rw [kindAt_get hj]
    constructor
    · rintro rfl
      have : (s, l[j].2) = l[j] := Prod.ext h5.symm rfl
      rw [this]
      exact List.getElem_mem hj
    · intro hm
      obtain ⟨i, hi, e⟩ := List.getElem_of_mem hm
      rw [List.pairwise_iff_getElem] at hp
      rcases Nat.lt_trichotomy i j with h6 | h6 | h6
      · have := hp i j hi hj h6
        rw [e, h5, ltT_irr] at this; cases this
      · subst h6; rw [e]
      · have := hp j i hj hi h6
        rw [e, h5, ltT_irr] at this; cases this
theorem nodup_of {l : List Se} (hp : l.Pairwise (fun a b => ltT a.1 b.1 = true)) : l.Nodup :=
  hp.imp fun {a b} h e => by subst e; rw [ltT_irr] at h; cases h
theorem kind_count {l : List Se} (hp : l.Pairwise (fun a b => ltT a.1 b.1 = true)) {s : ByteArray} {k : Int} (h1 : 1 ≤ k) : l.count (s, k) = if kindI l s = k then 1 else 0 := by
  by_cases h : (s, k) ∈ l
  · rw [if_pos ((kind_iff hp h1).2 h)]
    have a := List.one_le_count_iff.2 h
    have b := List.nodup_iff_count.1 (nodup_of hp) (s, k)
    omega
  · rw [if_neg (fun e => h ((kind_iff hp h1).1 e))]
    exact List.count_eq_zero.2 h

/-! ### all faults -/
def allF (A : List WsD) : List Se := A.flatMap (·.2)
def cntW (A : List WsD) (s : ByteArray) (k : Int) : Nat := (A.filter fun x => decide (kindI x.2 s = k)).length
theorem count_all {s : ByteArray} {k : Int} (h1 : 1 ≤ k) : ∀ {A : List WsD}, (∀ x ∈ A, oneB x.1 x.2 = true) → (allF A).count (s, k) = cntW A s k
  | [], _ => rfl
  | x :: A, h => by
    have ih := count_all (s := s) h1 (A := A) fun y hy => h y (List.mem_cons_of_mem _ hy)
    have hx := kind_count (one_facts (h x List.mem_cons_self)).2.1 (s := s) h1
    have e : allF (x :: A) = x.2 ++ allF A := by simp [allF]
    rw [e, List.count_append, ih, hx]
    unfold cntW
    by_cases hk : kindI x.2 s = k
    · rw [if_pos hk, List.filter_cons_of_pos (by simpa using hk), List.length_cons]; omega
    · rw [if_neg hk, List.filter_cons_of_neg (by simpa using hk)]; omega

/-- the letters of some faults, ascending, each once -/
def letsOf (L : List Se) : List ByteArray := L.foldl (fun M x => insP M x.1) []
theorem letsOf_snoc (L : List Se) (x : Se) : letsOf (L ++ [x]) = insP (letsOf L) x.1 := by simp [letsOf]
theorem letsOf_len (L : List Se) : (letsOf L).length ≤ L.length := by
  suffices h : ∀ (L : List Se) (M : List ByteArray), (L.foldl (fun M x => insP M x.1) M).length ≤ M.length + L.length by simpa [letsOf] using h L []
  intro L
  induction L with
  | nil => intro M; simp
  | cons x L ih =>
    intro M
    have h1 := ih (insP M x.1)
    have h2 := insP_len M x.1
    simp only [List.foldl_cons, List.length_cons]
    omega
theorem letsOf_facts (L : List Se) : Rise (letsOf L) ∧ ∀ s, s ∈ letsOf L ↔ ∃ y ∈ L, y.1 = s := by
  suffices h : ∀ (L : List Se) (M : List ByteArray), Rise M → Rise (L.foldl (fun M x => insP M x.1) M) ∧ ∀ s, s ∈ L.foldl (fun M x => insP M x.1) M ↔ s ∈ M ∨ ∃ y ∈ L, y.1 = s by
    have := h L [] List.Pairwise.nil
    refine ⟨this.1, fun s => ?_⟩
    have h2 := this.2 s
    simpa [letsOf] using h2
  intro L
  induction L with
  | nil => intro M hM; exact ⟨hM, fun s => by simp⟩
  | cons x L ih =>
    intro M hM
    obtain ⟨h1, h2⟩ := ins_facts hM x.1
    obtain ⟨h3, h4⟩ := ih _ h1
    refine ⟨h3, fun s => ?_⟩
    rw [List.foldl_cons, h4 s, h2 s]
    constructor
    · rintro ((h | h) | ⟨y, hy, e⟩)
      · exact Or.inl h
      · exact Or.inr ⟨x, List.mem_cons_self, h.symm⟩
      · exact Or.inr ⟨y, List.mem_cons_of_mem _ hy, e⟩
    · rintro (h | ⟨y, hy, e⟩)
      · exact Or.inl (Or.inl h)
      · rcases List.mem_cons.1 hy with rfl | hy
        · exact Or.inl (Or.inr e.symm)
        · exact Or.inr ⟨y, hy, e⟩

/-! ### what the reference hands back -/
def rk1 (A : List WsD) (s : ByteArray) (m : Nat) : List Se := ((List.range m).map fun j : Nat => (s, (j : Int) + 1)).filter fun x => decide (cntW A x.1 x.2 = 1)
theorem rk1_zero (A : List WsD) (s : ByteArray) : rk1 A s 0 = [] := rfl
theorem rk1_succ (A : List WsD) (s : ByteArray) (m : Nat) : rk1 A s (m + 1) = rk1 A s m ++ if cntW A s ((m : Int) + 1) = 1 then [(s, (m : Int) + 1)] else [] := by
  unfold rk1
  rw [List.range_succ, List.map_append, List.filter_append]
  congr 1
  by_cases h : cntW A s ((m : Int) + 1) = 1 <;> simp [h]
theorem rk1_len (A : List WsD) (s : ByteArray) (m : Nat) : (rk1 A s m).length ≤ m := by
  unfold rk1
  have := List.length_filter_le (fun x : Se => decide (cntW A x.1 x.2 = 1)) ((List.range m).map fun j : Nat => (s, (j : Int) + 1))
  simpa using this
def rfS (A : List WsD) : List Se := (letsOf (allF A)).flatMap fun s => rk1 A s 6
theorem rk1_mem {A : List WsD} {s : ByteArray} {m : Nat} {x : Se} : x ∈ rk1 A s m ↔ x.1 = s ∧ 1 ≤ x.2 ∧ x.2 ≤ m ∧ cntW A x.1 x.2 = 1 := by
  unfold rk1
  rw [List.mem_filter, List.mem_map]
  constructor
  · rintro ⟨⟨j, hj, rfl⟩, h⟩
    have := List.mem_range.1 hj
    refine ⟨rfl, ?_, ?_, of_decide_eq_true h⟩
    · show (1 : Int) ≤ (j : Int) + 1; omega
    · show (j : Int) + 1 ≤ (m : Int); omega
  · rintro ⟨rfl, h1, h2, h3⟩
    refine ⟨⟨(x.2 - 1).toNat, List.mem_range.2 (by omega), Prod.ext rfl ?_⟩, decide_eq_true h3⟩
    show ((x.2 - 1).toNat : Int) + 1 = x.2
    omega
theorem rk1_rise (A : List WsD) (s : ByteArray) (m : Nat) : RiseSe (rk1 A s m) := by
  unfold rk1 RiseSe
  refine List.Pairwise.filter _ ?_
  rw [List.pairwise_map]
  refine List.pairwise_lt_range.imp fun {a b} h => ?_
  show seLt (s, (a : Int) + 1) (s, (b : Int) + 1) = true
  rw [seLt_same (x := (s, (a : Int) + 1)) (y := (s, (b : Int) + 1)) rfl]
  exact decide_eq_true (by show (a : Int) + 1 < (b : Int) + 1; omega)
theorem rfS_mem {A : List WsD} {x : Se} : x ∈ rfS A ↔ x.1 ∈ letsOf (allF A) ∧ 1 ≤ x.2 ∧ x.2 ≤ 6 ∧ cntW A x.1 x.2 = 1 := by
  unfold rfS
  rw [List.mem_flatMap]
  constructor
  · rintro ⟨s, hs, h⟩
    obtain ⟨rfl, h1, h2, h3⟩ := rk1_mem.1 h
    exact ⟨hs, h1, h2, h3⟩
  · rintro ⟨hs, h1, h2, h3⟩
    exact ⟨x.1, hs, rk1_mem.2 ⟨rfl, h1, h2, h3⟩⟩
theorem rfS_rise (A : List WsD) : RiseSe (rfS A) := by
  unfold rfS RiseSe
  rw [List.pairwise_flatMap]
  refine ⟨fun s _ => rk1_rise A s 6, ?_⟩
  refine (letsOf_facts (allF A)).1.imp fun {a b} h x hx y hy => ?_
  obtain ⟨rfl, _⟩ := rk1_mem.1 hx
  obtain ⟨rfl, _⟩ := rk1_mem.1 hy
  rw [seLt_other (fun e => by rw [e, ltT_irr] at h; cases h)]
  exact h

/-! ### the faults counted once -/
def onceF (F L : List Se) : List Se := L.filter fun x => decide (F.count x = 1)
theorem onceF_snoc (F L : List Se) (x : Se) : onceF F (L ++ [x]) = onceF F L ++ if F.count x = 1 then [x] else [] := by
  unfold onceF
  rw [List.filter_append]
  congr 1
  by_cases h : F.count x = 1 <;> simp [h]
theorem onceF_len (F L : List Se) : (onceF F L).length ≤ L.length := List.length_filter_le _ _
theorem onceF_nodup (F : List Se) : (onceF F F).Nodup := by
  rw [List.nodup_iff_count]
  intro a
  by_cases h : a ∈ onceF F F
  · have h2 := of_decide_eq_true (List.mem_filter.1 h).2
    have : (onceF F F).count a ≤ F.count a := List.Sublist.count_le _ List.filter_sublist
    omega
  · rw [List.count_eq_zero.2 h]; omega
theorem rare_eq {A : List WsD} (hok : okWs A = true) {d : List Se} (hperm : d.Perm (onceF (allF A) (allF A))) (hs : ∀ i j (hi : i < d.length) (hj : j < d.length), i < j → seLt d[j] d[i] = false) : d = rfS A := by
  have hA := (okWs_facts hok).1
  have hnd : d.Nodup := hperm.nodup_iff.2 (onceF_nodup _)
  have hr : RiseSe d := by
    unfold RiseSe
    rw [List.pairwise_iff_getElem]
    intro i j hi hj hij
    refine seLt_or (hs i j hi hj hij) fun e => ?_
    have := (List.nodup_iff_pairwise_ne.1 hnd)
    rw [List.pairwise_iff_getElem] at this
    exact this i j hi hj hij e.symm
  refine riseSe_uniq hr (rfS_rise A) fun x => ?_
  rw [hperm.mem_iff, rfS_mem]
  unfold onceF
  rw [List.mem_filter]
  constructor
  · rintro ⟨hx, hc⟩
    have hc := of_decide_eq_true hc
    obtain ⟨m, hm, hxm⟩ := List.mem_flatMap.1 hx
    have h6 := ((one_facts (hA m hm)).1 x hxm).2
    unfold inB at h6
    have h6 := of_decide_eq_true h6
    refine ⟨((letsOf_facts _).2 _).2 ⟨x, hx, rfl⟩, h6.1, h6.2, ?_⟩
    rw [← count_all h6.1 hA]
    exact hc
  · rintro ⟨_, h1, h2, h3⟩
    rw [← count_all h1 hA] at h3
    have h3 : (allF A).count x = 1 := h3
    exact ⟨List.one_le_count_iff.1 (by omega), decide_eq_true h3⟩
end Go.Proofs.Ytnjdoedhhpkjhaa
