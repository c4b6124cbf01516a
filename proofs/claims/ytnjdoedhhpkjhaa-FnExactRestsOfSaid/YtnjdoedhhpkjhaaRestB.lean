/-
  The walk of impl.restTexts: a map that holds the least text for each rest.
-/
import Derived.Test.YtnjdoedhhpkjhaaRestMath
import Derived.Laws.AppendOwnNone
import Derived.Deep.AppendLies
namespace Go.Proofs.Ytnjdoedhhpkjhaa
open Go.RowKit Go.ChangeShapes Go.WideShapes Go.Maps
set_option linter.unusedVariables false
attribute [local go_sem ↓] Go.wp_at_zero Go.wp_at_succ

/-- a measure out of a relation with a number -/
theorem least_fun {α : Type} (R : Nat → α → Prop) : ∃ μ : α → Nat, ∀ a, (∃ m, R m a) → R (μ a) a ∧ ∀ k, R k a → μ a ≤ k := by
  have hl : ∀ a m, R m a → ∃ m, R m a ∧ ∀ k, R k a → m ≤ k := by
    intro a m
    induction m using Nat.strongRecOn with
    | _ m ih =>
      intro h
      by_cases hk : ∃ k, k < m ∧ R k a
      · obtain ⟨k, h1, h2⟩ := hk
        exact ih k h1 h2
      · refine ⟨m, h, fun k h2 => ?_⟩
        rcases Nat.lt_or_ge k m with h3 | h3
        · exact absurd ⟨k, h3, h2⟩ hk
        · exact h3
  have hall : ∀ a, ∃ m, (∃ m, R m a) → R m a ∧ ∀ k, R k a → m ≤ k := by
    intro a
    by_cases h : ∃ m, R m a
    · obtain ⟨m, hm⟩ := h
      obtain ⟨m', h1, h2⟩ := hl a m hm
      exact ⟨m', fun _ => ⟨h1, h2⟩⟩
    · exact ⟨0, fun h2 => absurd h2 h⟩
  exact ⟨fun a => Classical.choose (hall a), fun a => Classical.choose_spec (hall a)⟩

section
variable {P : Program} {w : World}
theorem wp_append_at {o : Oper} {a : Act} {K : Act → World → Prop} {Q : Exit → Act → World → Prop} (s x : Operand) (t : TypeId)
    (ho : o.op = .call { callee := .builtin .append, args := #[s, x], argTypes := #[t, t] })
    (base : Nat) (e : TypeId) (i : TypeInfo) (z : Value) (size bytes : Nat) (ht : P.underlying t = some (.slice e)) (hi : P.info? e = some i) (hz : i.zero = some z)
    (hsize : i.size = size) (hby : i.bytes = bytes) (hzs : z.cells.size = size) (hsz : 0 < size)
    (v : Value) (n : Nat) (xs : List Value) (hs : a.eval s = v) (hown : w.ownsRow base e size v n xs)
    (ad : Addr) (m c : Nat) (news : List Value) (hx : a.eval x = .slice (some ad) m c) (hl : news.length = m * size) (hnews : ∀ j u, news[j]? = some u → w.cell? (ad.add j) = some u) (h1 : ∀ u ∈ news, u.oneCell' = true)
    (h63 : n + m ≤ maxLen) (hbytes : (n + m) * bytes ≤ 140737488355328) (hbase : base ≤ w.heap.size)
    (h : ∀ v' w', w'.ownsRow base e size v' (n + m) (xs ++ news) → w.grownBy w' v.ownBlock → (v'.ownBlock = v.ownBlock ∨ v'.ownBlock = some w.heap.size) → K (a.put o.dst v') w') : o.wp P a w K Q := by
  obtain ⟨v', w', hr, h2, h3, h4, h5⟩ := run_append_own_at (P := P) w base t o.type e i z size bytes ht hi hz hsize hby hzs hsz v n xs hown ad m c news hl hnews h1 h63 hbytes hbase
  unfold Oper.wp execOp
  simp only [ho, resolve, invoke, builtin, Sem.run_bind, Sem.run_pure, Result.andThen_ok, List.map_toArray, List.map_cons, List.map_nil, hs, hx, hr]
  exact h v' w' h2 h3 h5
theorem step_append_at {ops : Array Oper} {o : Oper} {a : Act} {K : Act → World → Prop} {Q : Exit → Act → World → Prop} {E : Prop} (hgd : o.guard = none) (s x : Operand) (t : TypeId)
    (ho : o.op = .call { callee := .builtin .append, args := #[s, x], argTypes := #[t, t] })
    (base : Nat) (e : TypeId) (i : TypeInfo) (z : Value) (size bytes : Nat) (ht : P.underlying t = some (.slice e)) (hi : P.info? e = some i) (hz : i.zero = some z)
    (hsize : i.size = size) (hby : i.bytes = bytes) (hzs : z.cells.size = size) (hsz : 0 < size)
    (v : Value) (n : Nat) (xs : List Value) (hs : a.eval s = v) (hown : w.ownsRow base e size v n xs)
    (xv : Value) (hxv : a.eval x = xv) (ad : Addr) (m c : Nat) (news : List Value) (hx : xv = .slice (some ad) m c) (hl : news.length = m * size) (hnews : ∀ j u, news[j]? = some u → w.cell? (ad.add j) = some u) (h1 : ∀ u ∈ news, u.oneCell' = true)
    (h63 : n + m ≤ maxLen) (hbytes : (n + m) * bytes ≤ 140737488355328) (hbase : base ≤ w.heap.size)
    (h : ∀ v' w', w'.ownsRow base e size v' (n + m) (xs ++ news) → w.grownBy w' v.ownBlock → (v'.ownBlock = v.ownBlock ∨ v'.ownBlock = some w.heap.size) → K (a.put o.dst v') w') :
    if Region.wanted o (yielded ops a.tmps) = true then Oper.wp P o a w K Q else E := by
  have hw : Region.wanted o (yielded ops a.tmps) = true := by simp [Region.wanted, hgd]
  rw [if_pos hw]
  exact wp_append_at s x t ho base e i z size bytes ht hi hz hsize hby hzs hsz v n xs hs hown ad m c news (hxv.trans hx) hl hnews h1 h63 hbytes hbase h
end
/-- 'v, ok := m[k]', the mark known -/
theorem wpList_lookup_ok_b {H : Type} {P : Program} (w : World) {ops : Array Oper} {rest : List Oper} {o : Oper} {a : Act} {Q : Exit → Act → World → Prop} (hg : o.guard = none) (m x : Operand) (t : TypeId) (hop : o.op = Op.lookup t m x true)
    (k e : TypeId) (K : Keyed P k) (ht : P.underlying t = some (.map k e)) (R : Value → Option (DataW H × List MemPlace)) {z : Value} (hz : (zeroValue e).run P w = .ok z w) (zd : DataW H) (zp : List MemPlace) (hzd : R z = some (zd, zp)) (b n : Nat) (D : DataW H)
    (hm : a.eval m = .map (some b)) (hown : w.ownsMap P k R b n D) (key : Value) (kl : Lit) (hx : a.eval x = key) (hkey : keyOf P k key = some kl) (c : Bool) (hc : Maps.has D kl = c)
    (hK : ∀ v ps, R v = some (D.atKey kl zd, ps) → wpList P ops Q rest (a.put o.dst (.tuple #[v, .bool c])) w) :
    wpList P ops Q (o :: rest) a w := by
  subst hc
  exact wpList_lookup_own_ok w hg m x t hop k e K ht R hz zd zp hzd b n D hm hown key kl hx hkey hK

theorem Try.zeroStr (w : World) : (zeroValue 9).run Try.prog w = .ok (.string ByteArray.empty) w := by kernel_rfl
/-- the front of a row of one's own -/
theorem own_front {w : World} {B : Nat} {E : TypeId} {sz g n cap : Nat} {xs : List Value} (h : w.ownsRow B E sz (.slice (some ⟨g, 0, none⟩) n cap) n xs) (k : Nat) (hk : k ≤ n) : w.ownsRow B E sz (.slice (some ⟨g, 0, none⟩) k cap) k (xs.take (k * sz)) := by
  obtain ⟨h1, h2⟩ := h
  have hle := Nat.mul_le_mul_right sz hk
  refine ⟨by rw [List.length_take, h1]; omega, ?_⟩
  rcases h2 with ⟨hv, _⟩ | ⟨g', cap', cur, hv, hg, hh, hnc, hcm, hcs, htake⟩
  · cases hv
  · simp only [Value.slice.injEq, Option.some.injEq, Addr.mk.injEq] at hv
    obtain ⟨⟨rfl, _, _⟩, _, rfl⟩ := hv
    refine .inr ⟨g, cap, cur, rfl, hg, hh, by omega, hcm, hcs, ?_⟩
    rw [← htake, List.take_take, Nat.min_eq_left hle]
theorem ams_take (O : List Am) (b : Nat) : (ams O).take (b * 2) = ams (O.take b) := by
  induction O generalizing b with
  | nil => simp [ams, flat]
  | cons x O ih =>
    cases b with
    | zero => simp [ams, flat]
    | succ b =>
      have e : ams (x :: O) = .string x.1 :: .string x.2 :: ams O := by simp [ams, flat, amF]
      have e2 : ams (x :: O.take b) = .string x.1 :: .string x.2 :: ams (O.take b) := by simp [ams, flat, amF]
      rw [e, List.take_succ_cons, e2, Nat.add_mul, Nat.one_mul, List.take_succ_cons, List.take_succ_cons, ih]
theorem ams_drop (O : List Am) (b : Nat) : (ams O).drop (b * 2) = ams (O.drop b) := by
  induction O generalizing b with
  | nil => simp [ams, flat]
  | cons x O ih =>
    cases b with
    | zero => simp [ams, flat]
    | succ b =>
      have e : ams (x :: O) = .string x.1 :: .string x.2 :: ams O := by simp [ams, flat, amF]
      rw [e, List.drop_succ_cons, Nat.add_mul, Nat.one_mul, List.drop_succ_cons, List.drop_succ_cons, ih]
theorem ams_append (A B : List Am) : ams (A ++ B) = ams A ++ ams B := by simp [ams, flat]
theorem ams_get0 (l : List Am) (j : Nat) (hj : j < l.length) : (ams l)[j * 2]? = some (.string l[j].1) := by
  have := flat_get amF_len l j 0 hj (by omega)
  unfold ams
  simpa [amF] using this
theorem ams_get1 (l : List Am) (j : Nat) (hj : j < l.length) : (ams l)[j * 2 + 1]? = some (.string l[j].2) := by
  have := flat_get amF_len l j 1 hj (by omega)
  unfold ams
  simpa [amF] using this
theorem ams_one (l : List Am) : ∀ u ∈ ams l, u.oneCell' = true := by
  intro u hu
  unfold ams flat at hu
  rw [List.mem_flatMap] at hu
  obtain ⟨x, _, hx⟩ := hu
  simp [amF] at hx
  rcases hx with rfl | rfl <;> rfl

/-- the open texts and the map, side by side -/
def RestSt (w : World) (bm : Nat) (D O : List Am) (v : Value) (wr : World) : Prop :=
  wr.ownsRow w.heap.size 113 2 v O.length (ams O) ∧ wr.ownsMap (H := Unit) Try.prog 9 (plainElem Try.prog 9) bm D.length (mapA D) ∧ v.ownBlock ≠ some bm ∧ bm < wr.heap.size ∧ w.heap.size ≤ bm ∧ Below w.heap.size w wr
theorem RestSt.below {w : World} {bm : Nat} {D O : List Am} {v : Value} {wr wr' : World} (h : RestSt w bm D O v wr) (hb : Below wr.heap.size wr wr') : RestSt w bm D O v wr' := by
  obtain ⟨h1, h2, h3, h4, h5, h6⟩ := h
  exact ⟨owns_below h1 hb, h2.kept (grown_of_below (row := none) hb) (by simp), h3, Nat.lt_of_lt_of_le h4 hb.size, h5, h6.trans (hb.mono h6.size)⟩
theorem RestSt.form {w : World} {bm : Nat} {D O : List Am} {v : Value} {wr : World} (h : RestSt w bm D O v wr) (h0 : 0 < O.length) : ∃ g c, v = .slice (some ⟨g, 0, none⟩) O.length c ∧ w.heap.size ≤ g ∧ g < wr.heap.size ∧ O.length ≤ c ∧ c ≤ maxLen ∧ g ≠ bm := by
  obtain ⟨h1, _, h3, _⟩ := h
  rcases owns_form h1 with ⟨_, hn, _⟩ | ⟨g, c, rfl, hg, hl, hc, hm⟩
  · omega
  · exact ⟨g, c, rfl, hg, hl, hc, hm, fun e => h3 (by rw [e]; rfl)⟩
theorem RestSt.cells {w : World} {bm : Nat} {D O : List Am} {g c : Nat} {wr : World} (h : RestSt w bm D O (.slice (some ⟨g, 0, none⟩) O.length c) wr) (k : Nat) (hk : k < O.length) : wr.cell? ⟨g, k * 2, none⟩ = some (.string O[k].1) ∧ wr.cell? ⟨g, k * 2 + 1, none⟩ = some (.string O[k].2) := by
  have h1 := h.1
  exact ⟨by rw [h1.cellAt (k * 2) (by omega), ams_get0 O k hk], by rw [h1.cellAt (k * 2 + 1) (by omega), ams_get1 O k hk]⟩
theorem RestSt.grown {w : World} {bm : Nat} {D O O' : List Am} {v v' : Value} {wr wr' : World} {n : Nat} {xs : List Value} (h : RestSt w bm D O v wr) (ho : wr'.ownsRow w.heap.size 113 2 v' n xs) (hn : n = O'.length) (hx : xs = ams O') (hg : wr.grownBy wr' v.ownBlock) (hat : v'.ownBlock = v.ownBlock ∨ v'.ownBlock = some wr.heap.size) : RestSt w bm D O' v' wr' := by
  obtain ⟨h1, h2, h3, h4, h5, h6⟩ := h
  subst hn; subst hx
  refine ⟨ho, h2.kept hg (fun e => h3 e.symm), ?_, Nat.lt_of_lt_of_le h4 hg.size, h5, below_grown h6 h6.size h1 hg⟩
  rcases hat with e | e
  · rw [e]; exact h3
  · rw [e]; intro e2; simp at e2; omega
theorem RestSt.put {w : World} {bm : Nat} {D O : List Am} {v : Value} {wr wr' : World} {x : Am} (h : RestSt w bm D O v wr) (hm : wr'.ownsMap (H := Unit) Try.prog 9 (plainElem Try.prog 9) bm (D.length + 1) ((mapA D).put (.string x.2.data.toList) (.lit (.string x.1.data.toList)))) (hg : wr.grownBy wr' (some bm)) : RestSt w bm (D ++ [x]) O v wr' := by
  obtain ⟨h1, h2, h3, h4, h5, h6⟩ := h
  refine ⟨h1.kept hg (.inr h3), by rw [mapA_snoc, List.length_append]; exact hm, h3, Nat.lt_of_lt_of_le h4 hg.size, h5, h6.grown hg h6.size (fun k hk => by simp at hk; omega)⟩
/-- the row of open texts without one of them: where it is read from -/
theorem tail_cells {w : World} {bm : Nat} {D O : List Am} {g c : Nat} {wr : World} (h : RestSt w bm D O (.slice (some ⟨g, 0, none⟩) O.length c) wr) (b : Nat) : ∀ j u, (ams (O.drop (b + 1)))[j]? = some u → wr.cell? ⟨g, (b + 1) * 2 + j, none⟩ = some u := by
  intro j u hj
  rw [← ams_drop, List.getElem?_drop] at hj
  have hlt : (b + 1) * 2 + j < (ams O).length := (List.getElem?_eq_some_iff.1 hj).1
  rw [ams_len] at hlt
  rw [h.1.cellAt _ hlt, hj]

theorem pop_src {W : World} {g q k c : Nat} {L : List Value} (hL : L.length = (k - q) * 2) (hqk : q ≤ k) (hkc : k ≤ c) (hcell : ∀ j u, L[j]? = some u → W.cell? ⟨g, q * 2 + j, none⟩ = some u) : ∀ j u, L[j]? = some u → W.cell? ((if c = q then (⟨g, 0, none⟩ : Addr) else ⟨g, q * 2, none⟩).add j) = some u := by
  intro j u hj
  have hlt := (List.getElem?_eq_some_iff.1 hj).1
  by_cases h : c = q
  · omega
  · rw [if_neg h]
    have hadd : (⟨g, q * 2, none⟩ : Addr).add j = ⟨g, q * 2 + j, none⟩ := by unfold Addr.add; split <;> simp_all
    rw [hadd]
    exact hcell j u hj
theorem pop_val {g q k c : Nat} : Value.slice (if c = q then some (⟨g, 0, none⟩ : Addr) else some ⟨g, q * 2, none⟩) (k - q) (c - q) = .slice (some (if c = q then (⟨g, 0, none⟩ : Addr) else ⟨g, q * 2, none⟩)) (k - q) (c - q) := by
  by_cases h : c = q
  · rw [if_pos h, if_pos h]
  · rw [if_neg h, if_neg h]
theorem two_newA (w : World) (o : Obj) (x y : Value) (t : TypeId) : ∀ j u, [x, y][j]? = some u → ((w.alloc o).alloc (.cells #[x, y] t)).cell? ((⟨w.heap.size + 1, 0, none⟩ : Addr).add j) = some u := by
  have h := two_new (w.alloc o) x y t
  have e : (w.alloc o).heap.size = w.heap.size + 1 := by simp
  rwa [e] at h
theorem keyStr {x : ByteArray} (h : x.size ≤ maxLen) : keyOf Try.prog 9 (.string x) = some (.string x.data.toList) := WideMaps.keyOf_string_mk Try.underlying9 h
theorem emptyT_cases (t : ByteArray) : (t.size = 0 ∧ (t.toList == []) = true) ∨ (t.size ≠ 0 ∧ (t.toList == []) = false) := by
  have h := tl_size t
  cases e : t.toList with
  | nil => rw [e] at h; exact .inl ⟨by simpa using h.symm, rfl⟩
  | cons a r => rw [e] at h; exact .inr ⟨by simp at h; omega, rfl⟩
theorem RestSt.keep {w : World} {bm : Nat} {D O : List Am} {v : Value} {wr wr' : World} {ba : Nat} {a : Am} (h : RestSt w bm D O v wr) (c0 : wr.cell? ⟨ba, 0, none⟩ = some (.string a.1)) (c1 : wr.cell? ⟨ba, 1, none⟩ = some (.string a.2)) (hba : ba < wr.heap.size) (hb : Below wr.heap.size wr wr') :
    RestSt w bm D O v wr' ∧ wr'.cell? ⟨ba, 0, none⟩ = some (.string a.1) ∧ wr'.cell? ⟨ba, 1, none⟩ = some (.string a.2) ∧ ba < wr'.heap.size :=
  ⟨h.below hb, (hb.cell (p := ⟨ba, 0, none⟩) hba).trans c0, (hb.cell (p := ⟨ba, 1, none⟩) hba).trans c1, Nat.lt_of_lt_of_le hba hb.size⟩
theorem below_two {w0 w4 : World} (h : Below w0.heap.size w0 w4) (o1 o2 : Obj) : Below w0.heap.size w0 ((w4.alloc o1).alloc o2) := (h.alloc h.size _).alloc (by have := h.size; simp; omega) _
def RR (l : List ByteArray) (w : World) (bm : Nat) (m : Nat) (a : Value × World) : Prop :=
  ∃ D O, DInv l D O ∧ O.length ≤ 100 + 10 * D.length ∧ m = (90 - D.length) * 11 + O.length ∧ RestSt w bm D O a.1 a.2
/-- a map of the least texts, in new memory -/
def MapRet (l : List ByteArray) (w : World) (e : Ending) (w' : World) : Prop :=
  ∃ bm D, e = .returned (.map (some bm)) ∧ Good l D ∧ w'.ownsMap (H := Unit) Try.prog 9 (plainElem Try.prog 9) bm D.length (mapA D) ∧ w.heap.size ≤ bm ∧ Below w.heap.size w w'
theorem rests_100 {l : List ByteArray} (h : l.length ≤ 10) : (rests l).length ≤ 100 := by
  have := restsAll_le l l.length
  have h2 := Nat.mul_le_mul h h
  unfold rests
  omega
theorem grown_cell {w w' : World} {row : Option Nat} {b o : Nat} {u : Value} (hg : w.grownBy w' row) (h : w.cell? ⟨b, o, none⟩ = some u) (hne : some b ≠ row) : w'.cell? ⟨b, o, none⟩ = some u := hg.cell h hne

set_option maxRecDepth 100000 in
set_option maxHeartbeats 8000000 in
theorem restTexts_any (ao : Option Addr) (n cap : Nat) (l : List ByteArray) (w : World) (hn : n = l.length) (hr : Rd w ao (strs l)) (h8 : ∀ x ∈ l, x.size ≤ 8) (hm : n ≤ 10) :
    Calls Try.prog 45 #[.slice ao n cap] w (MapRet l w) := by
  obtain ⟨i0, hi, hz0, hz1, hz2⟩ := info_parts Try.infoAm
  have HN := hid hn
  have H8 := hid h8
  have H100 := hid (rests_100 (l := l) (by rw [← hn]; exact hm))
  have H10 := hid (show l.length ≤ 10 by rw [← hn]; exact hm)
  have hmm := @run_makeMap Try.prog
  clear hn
  go_enter Try.func45, Try.ntmps45
  go_wp2_with (go_at_call 69; refine (firstRests_any ao n cap l _ HN.out hr (fun x hx => by have := H8.out x hx; unfold maxLen; omega) (by omega)).mono ?_; rintro e w1 ⟨ro, rc, rfl, ho1, hb1⟩)
  have hst0 : RestSt w w1.heap.size [] (rests l) (.slice ro (rests l).length rc) (w1.alloc (.map #[] 0)) := ⟨ho1.alloc _, World.ownsMap_made _ _ _ _, fun e => by have := (ho1.lt _ e).2; omega, by simp, hb1.size, hb1.alloc hb1.size _⟩
  obtain ⟨bm, hbm⟩ : ∃ bm, bm = w1.heap.size := ⟨_, rfl⟩
  rw [← hbm] at hst0 ⊢
  clear ho1 hb1 hbm
  obtain ⟨μ, hμ⟩ := least_fun (RR l w bm)
  have HMU := hid hμ
  clear hμ
  go_loopw [3] (fun v wr => ∃ m, RR l w bm m (v, wr)) (fun v wr => μ (v, wr))
  case atStart => exact ⟨_, [], rests l, dinv_init H8.out, by have := H100.out; simpa using this, rfl, hst0⟩
  case round =>
    obtain ⟨⟨D, O, hD, hOl, hmu, hst⟩, hleast⟩ := HMU.out _ hrel
    clear hst0 hrel
    have hleast' := hid hleast
    clear hleast
    have hD90 := keys_90 H10.out H8.out hD.soundD hD.keys
    simp only at hst
    by_cases hO : 0 < O.length
    · obtain ⟨g, c, rfl, hg, hgl, hOc, hcm, hgm⟩ := hst.form hO
      have hO0 : (0 : Int) < (O.length : Int) := by omega
      obtain ⟨no, hno⟩ : ∃ no, no = O.length := ⟨_, rfl⟩
      have HNO := hid hno
      rw [← hno] at hOl hmu hO hO0 hOc
      rw [← hno]
      have hst' : RestSt w bm D O (.slice (some ⟨g, 0, none⟩) no c) wr := by rw [hno]; exact hst
      clear hno hst
      obtain ⟨wo, hwo⟩ : ∃ wo, wo = wr := ⟨_, rfl⟩
      rw [← hwo] at hst' hgl hmu hleast' ⊢
      clear hwo
      have HMM := hid hmu
      clear hmu
      go_wp2_with fail
      go_loopw [5, 23] (fun bv i wr2 => ∃ k b : Nat, k ≤ no ∧ i = .int .i64 k ∧ bv = .int .i64 b ∧ BestTo O b k ∧ Below wo.heap.size wo wr2) (fun _ i _ => no - (intOf i).toNat)
      case atStart => exact ⟨0, 0, Nat.zero_le _, rfl, rfl, best_zero (by rw [← HNO.out]; exact hO), Below.refl _ _⟩
      case round =>
        obtain ⟨k, b, hk, rfl, rfl, hbest, hB⟩ := hrel
        have hst2 := hst'.below hB
        have hz := hB.size
        by_cases hlt : k < no
        · have hkO : k < O.length := by rw [← HNO.out]; exact hlt
          have hbO := hbest.1
          have hcell : ∀ j (hj : j < O.length), wr.cell? ⟨g, j * 2, none⟩ = some (.string O[j].1) ∧ wr.cell? ⟨g, j * 2 + 1, none⟩ = some (.string O[j].2) := fun j hj => RestSt.cells (c := c) (by rw [← HNO.out]; exact hst2) j hj
          obtain ⟨g1, g2⟩ := hcell k hkO
          obtain ⟨g3, g4⟩ := hcell b hbO
          have hs1 := hD.smallO _ (List.getElem_mem hkO)
          have hs2 := hD.smallO _ (List.getElem_mem hbO)
          have hbn : b < no := by rw [HNO.out]; exact hbO
          have hk0 : (0 : Int) ≤ (k : Int) := by omega
          have hkn : (k : Int) < (no : Int) := by omega
          have hb0 : (0 : Int) ≤ (b : Int) := by omega
          have hbn1 : (b : Int) < (no : Int) := by omega
          have hgw : g < wr.heap.size := by omega
          have hkp := hid (fun h => best_keep hbest hkO h)
          have hnw := hid (fun h => best_new hbest hkO h)
          obtain ⟨x, hx⟩ : ∃ x, x = O[k] := ⟨_, rfl⟩
          obtain ⟨y, hy⟩ : ∃ y, y = O[b] := ⟨_, rfl⟩
          rw [← hx] at g1 g2 hs1
          rw [← hy] at g3 g4 hs2
          simp only [← hx, ← hy] at hkp hnw
          have hs1' : x.1.size ≤ maxLen := by unfold maxLen; omega
          have hs2' : y.1.size ≤ maxLen := by unfold maxLen; omega
          clear hx hy hcell hbO
          cases hdec : decide (rk x.1 < rk y.1)
          · have hgood := hid (hkp.out hdec)
            go_wp2_with fail
            go_quiet ((go_at_call 70; with_reducible exact qs (isLess_b _ _ _ hs1' hs2' hdec)))
            go_wp2_with fail
            go_roundw
            case rel => exact ⟨k + 1, b, by omega, by go_num, rfl, hgood.out, by (repeat (first | with_reducible exact Below.refl _ _ | with_reducible assumption | refine Below.drew ?_ | refine below_drewN ?_ _ | (refine Below.alloc ?_ (by first | omega | (simp; done) | (simp; omega)) _) | (refine Below.setCell ?_ (by first | omega | (simp; done) | (simp; omega)) _) | (refine Below.trans ?_ (Below.mono (by assumption) (by first | omega | (simp; done) | (simp; omega))))))⟩
            case measure => simp [intOf]; omega
          · have hgood := hid (hnw.out hdec)
            go_wp2_with fail
            go_quiet ((go_at_call 70; with_reducible exact qs (isLess_b _ _ _ hs1' hs2' hdec)))
            go_wp2_with fail
            go_roundw
            case rel => exact ⟨k + 1, k, by omega, by go_num, rfl, hgood.out, by (repeat (first | with_reducible exact Below.refl _ _ | with_reducible assumption | refine Below.drew ?_ | refine below_drewN ?_ _ | (refine Below.alloc ?_ (by first | omega | (simp; done) | (simp; omega)) _) | (refine Below.setCell ?_ (by first | omega | (simp; done) | (simp; omega)) _) | (refine Below.trans ?_ (Below.mono (by assumption) (by first | omega | (simp; done) | (simp; omega))))))⟩
            case measure => simp [intOf]; omega
        · have hk' : k = no := by omega
          subst hk'
          obtain ⟨hbO, hmin⟩ := best_all (by rw [← HNO.out]; exact hbest)
          have hcell : ∀ j (hj : j < O.length), wr.cell? ⟨g, j * 2, none⟩ = some (.string O[j].1) ∧ wr.cell? ⟨g, j * 2 + 1, none⟩ = some (.string O[j].2) := fun j hj => RestSt.cells (c := c) (by rw [← HNO.out]; exact hst2) j hj
          obtain ⟨g3, g4⟩ := hcell b hbO
          have hbn : b < k := by rw [HNO.out]; exact hbO
          have hb0 : (0 : Int) ≤ (b : Int) := by omega
          have hbn1 : (b : Int) < (k : Int) := by omega
          have hbn2 : (b : Int) ≤ (k : Int) := by omega
          have hbc : (b : Int) ≤ (c : Int) := by omega
          have hbc2 : (k : Int) ≤ (c : Int) := by omega
          obtain ⟨q, hq⟩ : ∃ q : Nat, q = b + 1 := ⟨_, rfl⟩
          have e1 : IntKind.i64.wrap ((b : Int) + 1) = (q : Int) := by rw [hq, IntWalk.i64_in _ (by omega)]; omega
          have hq0 : (0 : Int) ≤ (q : Int) := by omega
          have hqk : (q : Int) ≤ (k : Int) := by omega
          have hqkn : q ≤ k := by omega
          have hkc : k ≤ c := by omega
          have HQ := hid hq
          clear hq
          obtain ⟨a, ha⟩ : ∃ a, a = O[b] := ⟨_, rfl⟩
          rw [← ha] at g3 g4
          have HA := hid ha
          have HMIN := hid hmin
          clear hcell ha hmin
          go_wp2_with fail
          have hstA : RestSt w bm D O (.slice (some ⟨g, 0, none⟩) k c) ((wr.alloc (.cells #[.string a.1, .string a.2] 113)).drew) := hst2.below (((Below.refl _ _).alloc (Nat.le_refl _) _).drew)
          have hown := hstA.1
          rw [← HNO.out] at hown
          have hfr := own_front hown b (by omega)
          rw [ams_take] at hfr
          have hsrc := tail_cells (c := c) (by rw [← HNO.out]; exact hstA) b
          rw [← HQ.out] at hsrc
          have HFR := hid hfr
          have hdl : (ams (O.drop q)).length = (k - q) * 2 := by rw [ams_len, List.length_drop, ← HNO.out]
          have HSRC := hid (pop_src hdl hqkn hkc hsrc)
          have HDL := hid hdl
          clear hown hfr hsrc hdl
          have hSz := hst2.2.2.2.2.2.size
          go_region_held3 (fun W => Below w.heap.size w W) (first | exact ((hst2.2.2.2.2.2).alloc (by omega) _).drew | exact hstB.2.2.2.2.2) (first | (refine step_append_at rfl _ _ 110 rfl w.heap.size 113 i0 (.agg #[.string ByteArray.empty, .string ByteArray.empty]) 2 32 Try.underlying110 hi hz0 hz1 hz2 rfl (by decide) (.slice (some ⟨g, 0, none⟩) b c) b (ams (O.take b)) (by rfl) HFR.out (.slice (if c = q then some ⟨g, 0, none⟩ else some ⟨g, q * 2, none⟩) (k - q) (c - q)) (by rfl) (if c = q then (⟨g, 0, none⟩ : Addr) else ⟨g, q * 2, none⟩) (k - q) (c - q) (ams (O.drop q)) pop_val HDL.out HSRC.out (ams_one _) (by unfold maxLen; omega) (by omega) (by simp; omega) ?_; intro v2 w2 ho2 hg2 hat2; have hstB : RestSt w bm D (dropAt O b) v2 w2 := hstA.grown ho2 (by have := dropAt_len hbO; have := HNO.out; have := HQ.out; omega) (by rw [← ams_append, HQ.out]; rfl) hg2 hat2))
          generalize (if c = q then some (⟨g, 0, none⟩ : Addr) else some ⟨g, q * 2, none⟩) = dead
          have hD2 := hid (fun h => dinv_skip hD hbO h)
          have hT2 := hid (fun h => dinv_take H8.out hD hbO (fun y hy => HMIN.out y hy) h)
          have hdl := dropAt_len hbO
          rw [← HNO.out] at hdl
          have hsa := hD.smallO _ (List.getElem_mem hbO)
          have hra := got_size H8.out (hD.soundO _ (List.getElem_mem hbO))
          rw [← HA.out] at hsa hra
          simp only [← HA.out] at hD2 hT2
          have hra' : a.2.size ≤ maxLen := by unfold maxLen; omega
          have hsa' : a.1.size ≤ maxLen := by unfold maxLen; omega
          have hkey := keyStr hra'
          have ca0 : w2.cell? ⟨wr.heap.size, 0, none⟩ = some (.string a.1) := grown_cell hg2 (by simp) (by simp [Value.ownBlock]; omega)
          have ca1 : w2.cell? ⟨wr.heap.size, 1, none⟩ = some (.string a.2) := grown_cell hg2 (by simp) (by simp [Value.ownBlock]; omega)
          have hba : wr.heap.size < w2.heap.size := by have := hg2.size; simp at this; omega
          have HBN := hid hbn
          have hvb : v2.ownBlock ≠ some wr.heap.size := by
            rcases hat2 with e | e
            · rw [e]; simp [Value.ownBlock]; omega
            · rw [e]; simp
          have hbmr : bm < wr.heap.size := hst2.2.2.2.1
          clear hstA HFR HSRC HDL hg2 hat2 ho2 hbest hSz
          obtain ⟨ba, hbae⟩ : ∃ ba, ba = wr.heap.size := ⟨_, rfl⟩
          rw [← hbae] at ca0 ca1 hba hbmr hvb ⊢
          clear hbae g3 g4 hst2 hB hz hst' hgl
          cases hko : keyOn D a.2
          rotate_left
          · have hsk := hid (hD2.out hko)
            have hnew := hid (show RR l w bm ((90 - D.length) * 11 + (dropAt O b).length) (v2, w2) from ⟨D, dropAt O b, hsk.out, by omega, rfl, hstB⟩)
            have hmul := (HMU.out _ ⟨_, hnew.out⟩).2 _ hnew.out
            go_wp2_with (at_lookup; refine wpList_lookup_ok_b _ rfl _ _ 71 rfl 9 9 (string_keyed Try.underlying9) Try.underlying71 (plainElem Try.prog 9) (Try.zeroStr _) _ [] (plainElem_string Try.underlying9 (by decide)) bm D.length (mapA D) rfl hstB.2.1 (.string a.2) _ rfl hkey true (by rw [mapA_has]; exact hko) ?_; intro v ps hv)
            go_roundw
            case rel => exact ⟨_, hnew.out⟩
            case measure => have := HMM.out; omega
          · have htk := hid (hT2.out hko)
            have hD1 := keys_90 H10.out H8.out htk.out.soundD htk.out.keys
            rw [List.length_append, List.length_singleton] at hD1
            rcases emptyT_cases a.2 with ⟨hz', he⟩ | ⟨hz', he⟩
            · have hnz := hid (news_end (l := l) hz')
              clear hz'
              go_wp2_with (first | (at_lookup; refine wpList_lookup_ok_b _ rfl _ _ 71 rfl 9 9 (string_keyed Try.underlying9) Try.underlying71 (plainElem Try.prog 9) (Try.zeroStr _) _ [] (plainElem_string Try.underlying9 (by decide)) bm D.length (mapA D) rfl hstB.2.1 (.string a.2) _ rfl hkey false (by rw [mapA_has]; exact hko) ?_; intro v ps hv) | (at_mapUpdate; refine wpList_mapUpdate_own _ rfl _ _ _ 71 rfl 9 9 (string_keyed Try.underlying9) Try.underlying71 _ bm D.length _ rfl hstB.2.1 (by unfold maxLen; omega) _ _ _ rfl rfl hkey _ [] (plainElem_string Try.underlying9 hsa') ?_; intro w3 hown3 hgrow3; have hst3 := hstB.put (x := a) hown3 hgrow3; have ca3 := grown_cell hgrow3 ca1 (by simp; omega)))
              have hnew := hid (show RR l w bm ((90 - (D ++ [a]).length) * 11 + (dropAt O b).length) (v2, w3) from ⟨D ++ [a], dropAt O b, by have := htk.out; rw [hnz.out, List.append_nil] at this; exact this, by rw [List.length_append]; simp; omega, rfl, hst3⟩)
              have hmul := (HMU.out _ ⟨_, hnew.out⟩).2 _ hnew.out
              rw [List.length_append, List.length_singleton] at hmul
              go_roundw
              case rel => exact ⟨_, hnew.out⟩
              case measure => have := HMM.out; omega
            · have hnz := hid (news_on (l := l) hz')
              clear hz'
              go_wp2_with (first | (at_lookup; refine wpList_lookup_ok_b _ rfl _ _ 71 rfl 9 9 (string_keyed Try.underlying9) Try.underlying71 (plainElem Try.prog 9) (Try.zeroStr _) _ [] (plainElem_string Try.underlying9 (by decide)) bm D.length (mapA D) rfl hstB.2.1 (.string a.2) _ rfl hkey false (by rw [mapA_has]; exact hko) ?_; intro v ps hv) | (at_mapUpdate; refine wpList_mapUpdate_own _ rfl _ _ _ 71 rfl 9 9 (string_keyed Try.underlying9) Try.underlying71 _ bm D.length _ rfl hstB.2.1 (by unfold maxLen; omega) _ _ _ rfl rfl hkey _ [] (plainElem_string Try.underlying9 hsa') ?_; intro w3 hown3 hgrow3; have hst3 := hstB.put (x := a) hown3 hgrow3; have ca3 := grown_cell hgrow3 ca1 (by simp; omega); have ca2 := grown_cell hgrow3 ca0 (by simp; omega)))
              have hba3 : ba < w3.heap.size := Nat.lt_of_lt_of_le hba hgrow3.size
              clear ca0 ca1 hown3 hgrow3 hstB hba
              go_loopw [3, 68] (fun v i wr2 => ∃ j : Nat, j ≤ n ∧ i = .int .i64 j ∧ RestSt w bm (D ++ [a]) (dropAt O b ++ (l.take j).filterMap (nxt a)) v wr2 ∧ wr2.cell? ⟨ba, 0, none⟩ = some (.string a.1) ∧ wr2.cell? ⟨ba, 1, none⟩ = some (.string a.2) ∧ ba < wr2.heap.size ∧ v.ownBlock ≠ some ba) (fun _ i _ => n - (intOf i).toNat)
              case atStart => exact ⟨0, Nat.zero_le _, rfl, by simpa using hst3, ca2, ca3, hba3, hvb⟩
              case round =>
                clear hst3 ca2 ca3 hba3
                obtain ⟨j, hj, rfl, hst, c0, c1, hba, hbg⟩ := hrel
                have hB := hst.2.2.2.2.2
                by_cases hlt : j < n
                · rcases rd_str (rd_below hr hB) with hnil | ⟨wb, wof, rfl, hbl, hcell⟩
                  · exact absurd (by rw [HN.out, hnil]; rfl : n = 0) (by omega)
                  have hjl : j < l.length := by rw [← HN.out]; exact hlt
                  have g1 := hcell j hjl
                  have hw8 := H8.out _ (List.getElem_mem hjl)
                  have hj0 : (0 : Int) ≤ (j : Int) := by omega
                  have hjn : (j : Int) < (n : Int) := by omega
                  have hnt := nexts_take (a := a) hjl
                  have hnl := nexts_le l a j
                  obtain ⟨x, hx⟩ : ∃ x, x = l[j] := ⟨_, rfl⟩
                  rw [← hx] at g1 hw8 hnt
                  have HAF := fun w => after_any a x w (by omega) (by omega) (by omega)
                  clear hx hcell
                  cases hn : nxt a x with
                  | none =>
                    rw [hn] at HAF hnt
                    unfold amV at HAF
                    have HA2 := hid HAF
                    have HNT := hid hnt
                    clear HAF hnt
                    go_wp2_with (go_at_call 71; refine (HA2.out _).mono ?_; rintro e w4 ⟨rfl, hb4⟩)
                    go_roundw
                    case rel =>
                      have hk := hst.keep c0 c1 hba (hb4.alloc hb4.size (.cells #[.string ⟨#[]⟩, .string ⟨#[]⟩] 113))
                      exact ⟨j + 1, by omega, by go_num, by rw [HNT.out]; simpa using hk.1, hk.2.1, hk.2.2.1, hk.2.2.2, hbg⟩
                    case measure => simp [intOf]; omega
                  | some y =>
                    rw [hn] at HAF hnt
                    unfold amV at HAF
                    have HA2 := hid HAF
                    have hyl : (dropAt O b ++ (l.take j).filterMap (nxt a)).length ≤ 1100 := by rw [List.length_append]; omega
                    obtain ⟨Y, hY⟩ : ∃ Y, Y = dropAt O b ++ (l.take j).filterMap (nxt a) := ⟨_, rfl⟩
                    have HNT := hid (show dropAt O b ++ (l.take (j + 1)).filterMap (nxt a) = Y ++ [y] by rw [hnt, hY, List.append_assoc]; rfl)
                    rw [← hY] at hst hyl
                    clear HAF hnt hY
                    go_wp2_with (first | (go_at_call 71; refine (HA2.out _).mono ?_; rintro e w4 ⟨rfl, hb4⟩; have hk4 := hst.keep c0 c1 hba hb4) | (at_builtin; refine wpList_append_own_at _ rfl _ _ 110 rfl w.heap.size 113 i0 (.agg #[.string ByteArray.empty, .string ByteArray.empty]) 2 32 Try.underlying110 hi hz0 hz1 hz2 rfl (by decide) _ Y.length (ams Y) rfl ((hk4.1.1.alloc _).alloc _) ⟨w4.heap.size + 1, 0, none⟩ 1 1 [.string y.1, .string y.2] rfl rfl (two_newA _ _ _ _ _) (two_okS _ _) (by unfold maxLen; omega) (by omega) (by have := hb4.size; have := hB.size; simp; omega) ?_; intro v' w5 ho5 hg5 _ hat5))
                    have hk5 := hk4.1.keep hk4.2.1 hk4.2.2.1 hk4.2.2.2 (below_two (Below.refl _ _) (.cells #[.string y.1, .string y.2] 113) (.cells #[.string y.1, .string y.2] 113))
                    have hst5 : RestSt w bm (D ++ [a]) (Y ++ [y]) v' w5 := hk5.1.grown ho5 (by simp) (by rw [ams_snoc]) hg5 hat5
                    have hbg5 : v'.ownBlock ≠ some ba := by
                      have := hk4.2.2.2
                      rcases hat5 with e | e
                      · rw [e]; exact hbg
                      · rw [e]; simp; omega
                    have hne : some ba ≠ u3.ownBlock := by
                      intro e
                      exact hbg e.symm
                    go_roundw
                    case rel => exact ⟨j + 1, by omega, by go_num, by rw [HNT.out]; exact hst5, grown_cell hg5 hk5.2.1 hne, grown_cell hg5 hk5.2.2.1 hne, Nat.lt_of_lt_of_le hk5.2.2.2 hg5.size, hbg5⟩
                    case measure => simp [intOf]; omega
                · have hjn : j = n := by omega
                  subst hjn
                  have hall : l.take j = l := List.take_of_length_le (by rw [HN.out]; exact Nat.le_refl _)
                  have hnl := nexts_le l a j
                  rw [hall] at hst hnl
                  have htk2 := htk.out
                  rw [hnz.out] at htk2
                  have hnl2 : (nexts l a).length ≤ 10 := by unfold nexts; omega
                  have hnew := hid (show RR l w bm ((90 - (D ++ [a]).length) * 11 + (dropAt O b ++ nexts l a).length) (u3, wr) from ⟨D ++ [a], dropAt O b ++ nexts l a, htk2, by rw [List.length_append, List.length_append]; simp; omega, rfl, hst⟩)
                  have hmul := (HMU.out _ ⟨_, hnew.out⟩).2 _ hnew.out
                  rw [List.length_append, List.length_append, List.length_singleton] at hmul
                  clear hall htk2
                  go_wp2_with fail
                  go_roundw
                  case rel => exact ⟨_, hnew.out⟩
                  case measure => have := HMM.out; omega
    · have hO0 : O = [] := List.eq_nil_of_length_eq_zero (by omega)
      subst hO0
      rcases owns_form hst.1 with ⟨rfl, _, _⟩ | ⟨g, c, rfl, _, _, _, _⟩
      all_goals
        go_wp2_with fail
        go_ret
        exact ⟨bm, D, rfl, dinv_good hD, hst.2.1, hst.2.2.2.2.1, hst.2.2.2.2.2⟩
end Go.Proofs.Ytnjdoedhhpkjhaa
