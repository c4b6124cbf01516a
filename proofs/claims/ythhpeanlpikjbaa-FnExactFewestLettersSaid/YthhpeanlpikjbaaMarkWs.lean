/-
  Walks of the laws' marks over a list of machines.
-/
import Derived.Test.YthhpeanlpikjbaaMarkWr
import Derived.Test.YthhpeanlpikjbaaWsV
namespace Go.Proofs.Ythhpeanlpikjbaa
open Go.RowKit Go.ChangeShapes Go.WideShapes
set_option linter.unusedVariables false
attribute [local go_sem ↓] Go.wp_at_zero Go.wp_at_succ

/-- all blocks outside of B .. C as they were -/
structure Among (B C : Nat) (w w' : World) : Prop where
  os : w'.os = w.os
  tape : w'.tape = w.tape
  output : w'.output = w.output
  size : w.heap.size ≤ w'.heap.size
  block : ∀ k, k < w.heap.size → (k < B ∨ C ≤ k) → w'.heap[k]? = w.heap[k]?
theorem Among.refl (B C : Nat) (w : World) : Among B C w w := ⟨rfl, rfl, rfl, Nat.le_refl _, fun _ _ _ => rfl⟩
theorem Among.trans {B C : Nat} {a b c : World} (h : Among B C a b) (k : Among B C b c) : Among B C a c :=
  ⟨k.os.trans h.os, k.tape.trans h.tape, k.output.trans h.output, Nat.le_trans h.size k.size, fun i hi hne => (k.block i (Nat.lt_of_lt_of_le hi h.size) hne).trans (h.block i hi hne)⟩
theorem among_grown {B C : Nat} {w w' : World} {row : Option Nat} (h : w.grownBy w' row) (hr : ∀ g, row = some g → B ≤ g ∧ g < C) : Among B C w w' :=
  ⟨h.os, h.tape, h.output, h.size, fun k hk hne => h.block k hk (fun e => by have := hr k e.symm; omega)⟩
theorem Among.below {B C : Nat} {w w' : World} (h : Among B C w w') : Below B w w' → Below B w w' := id
theorem Among.toBelow {B C : Nat} {w w' : World} (h : Among B C w w') (hB : B ≤ w.heap.size) : Below B w w' := ⟨h.os, h.tape, h.output, h.size, fun k hk => h.block k (by omega) (Or.inl hk)⟩
theorem Among.owns {B C base : Nat} {w w' : World} {E : TypeId} {size : Nat} {v : Value} {n : Nat} {xs : List Value} (h : Among B C w w') (ho : w.ownsRow base E size v n xs) (hC : v.ownBlock = none ∨ ∀ g, v.ownBlock = some g → g < B ∨ C ≤ g) : w'.ownsRow base E size v n xs := by
  refine ⟨ho.1, ?_⟩
  rcases ho.2 with hn | ⟨g, cap, cur, rfl, hb, hgg, rest⟩
  · exact .inl hn
  · refine .inr ⟨g, cap, cur, rfl, hb, ?_, rest⟩
    rw [h.block g (Array.getElem?_eq_some_iff.1 hgg).1 ?_]
    · exact hgg
    · rcases hC with hC | hC
      · simp [Value.ownBlock] at hC
      · exact hC g rfl

def wsT : List Ws → Nat | [] => 0 | x :: M => 1 + 2 * x.fs.length + wsT M
theorem wsT_app (a b : List Ws) : wsT (a ++ b) = wsT a + wsT b := by
  induction a with
  | nil => simp [wsT]
  | cons x a ih => simp only [List.cons_append, wsT, ih]; omega
theorem wsT_next {M : List Ws} {i : Nat} (h : i < M.length) : wsT (M.take (i + 1)) = wsT (M.take i) + (1 + 2 * M[i].fs.length) := by
  rw [List.take_add_one, List.getElem?_eq_getElem h, wsT_app]
  simp [wsT]
theorem wsT_le (M : List Ws) (i : Nat) : wsT (M.take i) ≤ wsT M := by
  have := wsT_app (M.take i) (M.drop i)
  rw [List.take_append_drop] at this
  omega
theorem wss_set0 (l : List Ws) (j : Nat) (t : ByteArray) (hj : j < l.length) : (wss l).set (j * 2) (.string t) = wss (l.set j ⟨t, l[j].ao, l[j].cap, l[j].fs⟩) := by
  rw [← wss_set l j ⟨t, l[j].ao, l[j].cap, l[j].fs⟩ hj]
  apply List.ext_getElem?
  intro i
  by_cases e : j * 2 + 1 = i
  · subst e
    rw [List.getElem?_set_ne (by omega), wss_get1 l j hj, List.getElem?_set_self (by simp [wss_len]; omega)]
  · rw [List.getElem?_set_ne e]
theorem markTfI_any {k : Int} (B : Nat) (ao : Option Addr) (n cap : Nat) (l : List Se) (k0 : Nat) (w : World) (hk : k = (k0 : Int)) (hown : w.ownsRow B 109 2 (.slice ao n cap) n (ses l)) (hm : n ≤ 1048576) (hk0 : 1 ≤ k0) (hk1 : k0 ≤ 536870912) :
    Calls Try.prog 72 #[.slice ao n cap, .int .i64 k] w fun e w' => e = .returned (.int .i64 ((k0 + 2 * n : Nat) : Int)) ∧ w.grownBy w' (Value.slice ao n cap).ownBlock := by
  subst hk
  exact (markTf_any B ao n cap l k0 w hown hm hk0 hk1).mono fun _ _ h => ⟨h.1, h.2.2⟩

set_option maxRecDepth 100000 in
set_option maxHeartbeats 4000000 in
theorem markWs_any (B C : Nat) (bo : Option Addr) (n cap : Nat) (M : List Ws) (k0 : Nat) (w : World) (hown : WsOwn w B bo n cap M) (hC : C ≤ w.heap.size) (hBC0 : ∀ g, (Value.slice bo n cap).ownBlock = some g → g < C)
    (hin : ∀ x ∈ M, ∀ g, (Value.slice x.ao x.fs.length x.cap).ownBlock = some g → g < C) (hsm : ∀ x ∈ M, x.fs.length ≤ 1048576) (hm : n ≤ 1048576) (hk0 : 1 ≤ k0) (hk1 : k0 + wsT M ≤ 536870912) :
    Calls Try.prog 44 #[.slice bo n cap, .int .i64 k0] w fun e w' => e = .returned (.int .i64 ((k0 + wsT M : Nat) : Int)) ∧ Among B C w w' := by
  obtain ⟨hlen, hrow, hinner, hap, hfirst⟩ := hown
  rcases owns_form hrow with ⟨hv, hn0, hx0⟩ | ⟨g, c, hv, hBg, hgl, hnc, hcm⟩
  · subst hn0
    have hM : M = [] := List.eq_nil_of_length_eq_zero hlen.symm
    subst hM
    clear hlen hrow hinner hap hfirst hin hsm hx0 hBC0
    go_enter Try.func44, Try.ntmps44
    go_wp2
    refine wp_loop_rounds 1 ?_
    rw [rounds_succ]
    go_wp2
    go_ret
    exact ⟨ret_int (by simp [wsT]), Among.refl _ _ _⟩
  · cases hv
    obtain rfl : g = B := hfirst g rfl
    have hBC : g < C := hBC0 g rfl
    clear hBC0
    have HLN := hid hlen
    have HIN := hid hin
    have HSM := hid hsm
    have HAP := hid (List.pairwise_iff_getElem.1 hap)
    have HI0 := hid (fun j (h : j < M.length) (_ : 0 ≤ j) => hinner _ (List.getElem_mem h))
    have HNX := hid (fun i (h : i < M.length) => wsT_next h)
    have HLE := hid (wsT_le M)
    have HTA := hid (show wsT (M.take n) = wsT M by rw [hlen, List.take_length])
    clear hlen hin hsm hap hinner hfirst
    go_enter Try.func44, Try.ntmps44
    go_wp2
    go_loopw [1, 5] (fun kk q wr => ∃ (i : Nat) (M' : List Ws), i ≤ n ∧ q = .int .i64 i ∧ kk = .int .i64 ((k0 + wsT (M.take i) : Nat) : Int) ∧ M'.length = n ∧ Hid (∀ j (h : j < M'.length) (h2 : j < M.length), i ≤ j → M'[j] = M[j]) ∧
      wr.ownsRow g 44 2 (.slice (some ⟨g, 0, none⟩) n cap) n (wss M') ∧ Hid (∀ j (h : j < M.length), i ≤ j → wr.ownsRow (g + 1) 109 2 (.slice M[j].ao M[j].fs.length M[j].cap) M[j].fs.length (ses M[j].fs)) ∧ Among g C w wr) (fun _ q _ => n - (intOf q).toNat)
    case atStart => exact ⟨0, M, Nat.zero_le _, rfl, by simp [wsT], HLN.out.symm, hid (fun j h h2 _ => rfl), hrow, HI0, Among.refl _ _ _⟩
    case round =>
      clear hrow HI0
      obtain ⟨i, M', hi, rfl, rfl, hml, hsame, hrow, hinn, hA⟩ := hrel
      have hz := hA.size
      by_cases hlt : i < n
      · have hiM : i < M.length := by rw [← HLN.out]; exact hlt
        have hiM' : i < M'.length := by rw [hml]; exact hlt
        have hi0 : (0 : Int) ≤ (i : Int) := by omega
        have hin' : (i : Int) < (n : Int) := by omega
        have hx := hsame.out i hiM' hiM (Nat.le_refl _)
        have hset := hid (fun t => wss_set0 M' i t hiM')
        have hnx := HNX.out i hiM
        have hle := HLE.out (i + 1)
        have hle0 := HLE.out i
        have hIi := hid (hinn.out i hiM (Nat.le_refl _))
        have hfl := HSM.out _ (List.getElem_mem hiM)
        have hCl := hid (HIN.out _ (List.getElem_mem hiM))
        have hcells : wr.cell? ⟨g, i * 2 + 1, none⟩ = some (.slice M[i].ao M[i].fs.length M[i].cap) := by
          rw [hrow.cellAt (i * 2 + 1) (by omega), wss_get1 M' i hiM', hx]
        obtain ⟨K, hK⟩ : ∃ K, K = k0 + wsT (M.take i) := ⟨_, rfl⟩
        rw [← hK]
        have hK1 : 1 ≤ K := by omega
        have hK2 : K + (1 + 2 * M[i].fs.length) ≤ 536870912 := by omega
        have hK3 : k0 + wsT (M.take (i + 1)) = K + 1 + 2 * M[i].fs.length := by omega
        clear hnx hle hle0
        have HK3 := hid hK3
        clear hK3 hx
        have HKK := hid hK
        clear hK
        go_wp2_with fail
        refine (markTextI_any K _ rfl hK1 (by omega)).mono ?_
        rintro e w2 ⟨rfl, hb2⟩
        have hrow2 := owns_below hrow hb2
        have hgw : g < wr.heap.size := by omega
        have hc2 := (hb2.cell (p := ⟨g, i * 2 + 1, none⟩) hgw).trans hcells
        obtain ⟨v0, hcell0⟩ : ∃ v, w2.cell? ⟨g, i * 2, none⟩ = some v := ⟨_, by rw [hrow2.cellAt (i * 2) (by omega), wss_get0 M' i hiM']⟩
        have hfr := hrow2.frozenAt (i * 2)
        obtain ⟨hrow3, hg3⟩ := hrow2.stored (i * 2) (.string (mtxt K))
        rw [hset.out] at hrow3
        have hc3 : (w2.setCell ⟨g, i * 2, none⟩ (.string (mtxt K))).cell? ⟨g, i * 2 + 1, none⟩ = some (.slice M[i].ao M[i].fs.length M[i].cap) := by
          rw [World.cell?_setCell_other _ _ _ _ (by simp)]; exact hc2
        have hI3 := hid (fun j (h : j < M.length) (hij : i ≤ j) => ownsRow_setCell_below (owns_below (hinn.out j h hij) hb2) (a := ⟨g, i * 2, none⟩) (by show g < g + 1; omega) (.string (mtxt K)))
        have hA3 : Among g C w (w2.setCell ⟨g, i * 2, none⟩ (.string (mtxt K))) := hA.trans ((among_grown (row := none) (grown_of_below hb2) (fun _ h => by cases h)).trans (among_grown hg3 (fun q hq => by cases hq; exact ⟨Nat.le_refl _, hBC⟩)))
        go_wp2_with fail
        refine (markTfI_any (g + 1) _ _ _ M[i].fs (K + 1) _ (by omega) (hI3.out i hiM (Nat.le_refl _)) hfl (by omega) (by omega)).mono ?_
        rintro e w4 ⟨rfl, hg4⟩
        go_wp2_with fail
        go_roundw
        case rel =>
          refine ⟨i + 1, M'.set i ⟨mtxt K, M'[i].ao, M'[i].cap, M'[i].fs⟩, by omega, by go_num, by rw [HK3.out]; first | go_num | (congr 1; omega), by rw [List.length_set]; exact hml, ?_, ?_, ?_, ?_⟩
          · refine hid (fun j h h2 hij => ?_)
            rw [List.getElem_set_ne (by omega)]
            exact hsame.out j (by simpa using h) h2 (by omega)
          · refine hrow3.kept hg4 ?_
            right
            intro hq
            have := ((hI3.out i hiM (Nat.le_refl _)).lt g hq.symm).1
            omega
          · refine hid (fun j h hij => ?_)
            refine (hI3.out j h (by omega)).kept hg4 ?_
            rcases HAP.out i j hiM h (by omega) with hq | hq
            · by_cases hn : (Value.slice M[j].ao M[j].fs.length M[j].cap).ownBlock = none
              · exact .inl hn
              · right; rw [hq]; exact hn
            · right; exact fun e => hq e.symm
          · refine hA3.trans (among_grown hg4 (fun q hq => ⟨?_, hCl.out q hq⟩))
            have := ((hI3.out i hiM (Nat.le_refl _)).lt q hq).1
            omega
        case measure => simp [intOf]; omega
      · obtain rfl : i = n := by omega
        have hta := HTA.out
        go_wp2
        go_ret
        exact ⟨by rw [← hta]; rfl, hA⟩
end Go.Proofs.Ythhpeanlpikjbaa
