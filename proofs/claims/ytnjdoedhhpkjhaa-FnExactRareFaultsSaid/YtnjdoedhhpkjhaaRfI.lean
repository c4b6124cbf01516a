/-
  The faults that one machine alone has: the walk of the program, its first two loops.
-/
import Derived.Test.YtnjdoedhhpkjhaaRfKey
import Derived.Test.YtnjdoedhhpkjhaaRfSort
import Derived.OwnWalk
namespace Go.Proofs.Ytnjdoedhhpkjhaa
open Go.RowKit Go.ChangeShapes Go.WideShapes Go.Maps
set_option linter.unusedVariables false
attribute [local go_sem ↓] Go.wp_at_zero Go.wp_at_succ

def upF (l : List Ws) (k : Nat) : List Se := (l.take k).flatMap (·.fs)
theorem upF_succ {l : List Ws} {k : Nat} (h : k < l.length) : upF l (k + 1) = upF l k ++ l[k].fs := by
  unfold upF
  rw [List.take_succ_eq_append_getElem h, List.flatMap_append]
  simp
theorem upF_all (l : List Ws) : upF l l.length = allF (l.map Ws.d) := by
  unfold upF allF
  rw [List.take_length, List.flatMap_map]
  rfl
theorem upF_len {l : List Ws} (h : ∀ x ∈ l, x.fs.length ≤ 10) : ∀ k, k ≤ l.length → (upF l k).length ≤ 10 * k
  | 0, _ => by simp [upF]
  | k + 1, hk => by
    rw [upF_succ (by omega), List.length_append]
    have := upF_len h k (by omega)
    have := h _ (List.getElem_mem (show k < l.length by omega))
    omega
structure FsOk (fs : List Se) : Prop where
  len : fs.length ≤ 10
  key : ∀ x ∈ fs, KeyOk x
theorem fs_ok {nm : ByteArray} {fs : List Se} (h : oneB nm fs = true) : FsOk fs := by
  obtain ⟨h1, h2, h3⟩ := one_facts h
  refine ⟨h3, fun x hx => ?_⟩
  obtain ⟨a, b⟩ := h1 x hx
  unfold letB at a
  rw [Bool.and_eq_true] at a
  have a1 := of_decide_eq_true a.1
  unfold inB at b
  have b1 := of_decide_eq_true b
  exact ⟨by rw [a1]; unfold maxLen; omega, by simp [Lit.wf, IntKind.min, IntKind.max, IntKind.signed, IntKind.bits]; omega⟩
def rareAll (l : List Ws) : List Se × Int := if okWs (l.map Ws.d) then (rfS (l.map Ws.d), 0) else ([], 1)
theorem rareAll_bad {l : List Ws} (h : okWs (l.map Ws.d) = false) : rareAll l = ([], 1) := by unfold rareAll; rw [h]; rfl
theorem rareAll_ok {l : List Ws} (h : okWs (l.map Ws.d) = true) : rareAll l = (rfS (l.map Ws.d), 0) := by unfold rareAll; rw [h]; rfl
theorem take_one {α : Type} {l : List α} {j : Nat} (h : j < l.length) : l.take (j + 1) = l.take j ++ [l[j]] := List.take_succ_eq_append_getElem h
theorem ses_snoc (l : List Se) (x : ByteArray) (y : Int) : ses l ++ [.string x, .int .i64 y] = ses (l ++ [(x, y)]) := by
  simp [ses, flat, seF]

theorem two_newF (w : World) (o : Obj) (x y : Value) (t : TypeId) : ∀ j u, [x, y][j]? = some u → ((w.alloc o).alloc (.cells #[x, y] t)).cell? ((⟨w.heap.size + 1, 0, none⟩ : Addr).add j) = some u := by
  intro j u hj
  match j, hj with
  | 0, hj => simpa [Addr.add] using hj
  | 1, hj => simpa [Addr.add] using hj
theorem two_okF (x : ByteArray) (y : Int) : ∀ u ∈ [Value.string x, Value.int .i64 y], u.oneCell' = true := by
  intro u hu
  rcases List.mem_cons.1 hu with rfl | hu
  · rfl
  · rcases List.mem_cons.1 hu with rfl | hu
    · rfl
    · cases hu
theorem sortedSe_cell {w w' : World} {B blk c n p : Nat} {L : List Se} (h : SortedSe w B blk c n L w') (hp : p < w.heap.size) (hne : blk ≠ p) : w'.cell? ⟨p, 0, none⟩ = w.cell? ⟨p, 0, none⟩ := by
  obtain ⟨_, _, _, hg, _⟩ := h
  exact World.cell?_of_block (hg.block p hp (by simp; omega))
/-- the box and the row that it holds -/
structure BoxF (B p : Nat) (xs : List Se) (N : Nat) (wr : World) (g c : Nat) : Prop where
  cell : wr.cell? ⟨p, 0, none⟩ = some (.slice (some ⟨g, 0, none⟩) N c)
  froz : wr.frozen? ⟨p, 0, none⟩ = false
  ne : g ≠ p
  row : wr.ownsRow B 82 2 (.slice (some ⟨g, 0, none⟩) N c) N (ses xs)
theorem cell_grown {w w' : World} {g k c b : Nat} (h : w.grownBy w' (Value.slice (some ⟨g, 0, none⟩) k c).ownBlock) (hb : b < w.heap.size) (hne : g ≠ b) : w'.cell? ⟨b, 0, none⟩ = w.cell? ⟨b, 0, none⟩ :=
  World.cell?_of_block (h.block b hb (by simp [Value.ownBlock]; omega))
theorem frozen_grown {w w' : World} {g k c b : Nat} (h : w.grownBy w' (Value.slice (some ⟨g, 0, none⟩) k c).ownBlock) (hb : b < w.heap.size) (hne : g ≠ b) : w'.frozen? ⟨b, 0, none⟩ = w.frozen? ⟨b, 0, none⟩ :=
  World.frozen?_of_block (h.block b hb (by simp [Value.ownBlock]; omega))
theorem box_new (w : World) : BoxF w.heap.size (w.heap.size + 1) [] 0 ((w.alloc (.cells #[] 82)).alloc (.cells #[.slice (some ⟨w.heap.size, 0, none⟩) 0 0] 43)) w.heap.size 0 where
  cell := by simp
  froz := by simp
  ne := by omega
  row := by
    have h := World.ownsRow_made (e := 82) (size := 2) (base := w.heap.size) w #[] 0 (Nat.le_refl _) (by unfold maxLen; omega) rfl
    have h2 : (w.alloc (.cells #[] 82)).ownsRow w.heap.size 82 2 (.slice (some ⟨w.heap.size, 0, none⟩) 0 0) 0 [] := by simpa using h
    exact h2.alloc _
theorem BoxF.alloc {B p : Nat} {xs : List Se} {N : Nat} {w : World} {g c : Nat} (h : BoxF B p xs N w g c) (hp : p < w.heap.size) (o : Obj) : BoxF B p xs N (w.alloc o) g c where
  cell := (((Below.refl w.heap.size w).alloc (Nat.le_refl _) o).cell (p := ⟨p, 0, none⟩) hp).trans h.cell
  froz := (((Below.refl w.heap.size w).alloc (Nat.le_refl _) o).frozen (p := ⟨p, 0, none⟩) hp).trans h.froz
  ne := h.ne
  row := h.row.alloc o
theorem box_set {B p : Nat} {xs : List Se} {N : Nat} {w : World} {g c : Nat} {v : Value} (hc : w.cell? ⟨p, 0, none⟩ = some v) (hf : w.frozen? ⟨p, 0, none⟩ = false) (hne : g ≠ p) (hrow : w.ownsRow B 82 2 (.slice (some ⟨g, 0, none⟩) N c) N (ses xs)) :
    BoxF B p xs N (w.setCell ⟨p, 0, none⟩ (.slice (some ⟨g, 0, none⟩) N c)) g c where
  cell := World.cell?_setCell_same' w _ _ (by rw [hc]; rfl)
  froz := by rw [World.frozen?_setCell]; exact hf
  ne := hne
  row := ownsRow_setCell_other hrow (by simp [Value.ownBlock]; omega) _

set_option maxRecDepth 100000 in
set_option maxHeartbeats 8000000 in
theorem rare_any (ao : Option Addr) (n cap : Nat) (l : List Ws) (w : World) (ha : WsArg w ao n cap l) (hs : WsSmall l) :
    Calls Try.prog 25 #[.slice ao n cap] w (FlatRet w.heap.size 82 2 (rareAll l).1.length w (ses (rareAll l).1) (rareAll l).2) := by
  obtain ⟨i0, hi, iz0, iz1, iz2⟩ := info_parts Try.infoTf
  cases h1 : okWs (l.map Ws.d)
  · have hR := hid (rareAll_bad h1)
    go_enter Try.func25, Try.ntmps25
    go_wp2_with (go_at_call 51; refine (okWs_any ao n cap l _ ha hs).mono ?_; rw [h1]; rintro e w1 ⟨rfl, hb1⟩)
    go_ret2
    rw [hR.out]
    exact ⟨none, 0, rfl, World.ownsRow_nil _ _ _ _, hb1⟩
  have hR := hid (rareAll_ok h1)
  have H1 := hid h1
  obtain ⟨hA, h12⟩ := okWs_facts h1
  have h12 : l.length ≤ 12 := by simpa using h12
  have hF : ∀ x ∈ l, FsOk x.fs := fun x hx => fs_ok (hA x.d (List.mem_map.2 ⟨x, hx, rfl⟩))
  have HL := hid (upF_len (l := l) fun x hx => (hF x hx).len)
  have HF := hid hF
  have hnl : n = l.length := ha.1
  have HN := hid hnl
  rw [← hnl] at h12
  clear hnl hF hA h1
  have hmm := @run_makeMap Try.prog
  go_enter Try.func25, Try.ntmps25
  go_wp2_with (go_at_call 51; refine (okWs_any ao n cap l _ ha hs).mono ?_; rw [H1.out]; rintro e w1 ⟨rfl, hb1⟩)
  have ha1 := ha.below hb1
  obtain ⟨hx1, hx2, hr, hg⟩ := ha1
  have HB1 := hid hb1
  have HG := hid hg
  have HS := hid hs.2
  have hrd := rd_ws hr
  clear hx1 hx2 hr hg ha hs hb1
  have hm0 : (w1.alloc (.map #[] 0)).ownsMap (H := Unit) Try.prog 82 (plainElem Try.prog 3) w1.heap.size 0 (.map []) := World.ownsMap_made _ _ _ _
  have hB0 : Below w1.heap.size w1 (w1.alloc (.map #[] 0)) := (Below.refl _ _).alloc (Nat.le_refl _) _
  go_loopw [6, 8, 20, 27] (fun _ _ i _ wr => ∃ k : Nat, k ≤ n ∧ i = .int .i64 k ∧ (∃ D, wr.ownsMap (H := Unit) Try.prog 82 (plainElem Try.prog 3) w1.heap.size (upF l k).length D ∧ Cnt D (upF l k)) ∧ Below w1.heap.size w1 wr) (fun _ _ i _ _ => n - (intOf i).toNat)
  case atStart => exact ⟨0, Nat.zero_le _, rfl, ⟨_, hm0, cnt_zero⟩, hB0⟩
  case round =>
    obtain ⟨k, hk, rfl, ⟨D, hown, hcnt⟩, hB⟩ := hrel
    by_cases hlt : k < n
    · rcases hrd with hnil | ⟨b, o, rfl, hl1, hcell⟩
      · exact absurd (by rw [HN.out, hnil]; rfl : n = 0) (by omega)
      have hka : k < l.length := by rw [← HN.out]; exact hlt
      have hnd := (HS.out _ (List.getElem_mem hka)).2
      have hk0 : (0 : Int) ≤ (k : Int) := by omega
      have hkn : (k : Int) < (n : Int) := by omega
      have hup := hid (upF_succ hka)
      have hlen := HL.out k (by omega)
      have hfo := hid (HF.out _ (List.getElem_mem hka))
      obtain ⟨h1, h2⟩ := (hcell k hka).below hB hl1
      have R1 := hid (HG.out _ (List.getElem_mem hka)).rd
      clear hcell
      obtain ⟨x, hx⟩ : ∃ x, x = l[k] := ⟨_, rfl⟩
      rw [← hx] at h1 h2 R1 hnd hup hfo
      clear hx
      obtain ⟨nx, ax, cx, fx⟩ := x
      dsimp only at h1 h2 R1 hnd hup hfo
      obtain ⟨U, hU⟩ : ∃ U, U = upF l k := ⟨_, rfl⟩
      rw [← hU] at hup hown hcnt hlen
      obtain ⟨mx, hmx⟩ : ∃ m, m = fx.length := ⟨_, rfl⟩
      rw [← hmx] at h2 hnd
      have HMX := hid hmx
      have hm10 : mx ≤ 10 := by rw [hmx]; exact hfo.out.len
      clear hmx hU
      have hB1 : Below wr.heap.size wr (wr.alloc (.cells #[.string nx, .slice ax mx cx] 80)) := (Below.refl _ _).alloc (Nat.le_refl _) _
      have hBB := hB.trans (hB1.mono hB.size)
      have hown1 := hown.alloc (.cells #[.string nx, .slice ax mx cx] 80)
      have hup0 : U ++ fx.take 0 = U := by simp
      have hupm := hid (show upF l (k + 1) = U ++ fx.take mx by rw [hup.out, HMX.out, List.take_length])
      clear hown hB1 hup hB
      go_wp2_with fail
      go_loopw [8, 27] (fun _ i wi => ∃ j : Nat, j ≤ mx ∧ i = .int .i64 j ∧ (∃ D, wi.ownsMap (H := Unit) Try.prog 82 (plainElem Try.prog 3) w1.heap.size (U ++ fx.take j).length D ∧ Cnt D (U ++ fx.take j)) ∧ Below w1.heap.size w1 wi) (fun _ i _ => mx - (intOf i).toNat)
      case atStart => exact ⟨0, Nat.zero_le _, rfl, ⟨D, by rw [hup0]; exact hown1, by rw [hup0]; exact hcnt⟩, hBB⟩
      case round =>
        clear hown1 hcnt hBB h1 h2
        obtain ⟨j, hj, rfl, ⟨D, hown, hcnt⟩, hB⟩ := hrel
        by_cases hjt : j < mx
        · rcases rd_se R1.out with hnil | ⟨b2, o2, rfl, hl2, hcell2⟩
          · exact absurd (by rw [HMX.out, hnil]; rfl : mx = 0) (by omega)
          have hja : j < fx.length := by rw [← HMX.out]; exact hjt
          have hj0 : (0 : Int) ≤ (j : Int) := by omega
          have hjm : (j : Int) < (mx : Int) := by omega
          have c0 := (hB.cell (p := ⟨b2, o2 + j * 2, none⟩) hl2).trans (hcell2 j hja).1
          have c1 := (hB.cell (p := ⟨b2, o2 + j * 2 + 1, none⟩) hl2).trans (hcell2 j hja).2
          have hkey := hid (hfo.out.key _ (List.getElem_mem hja))
          have hnx := hid (show U ++ fx.take (j + 1) = (U ++ fx.take j) ++ [fx[j]] by rw [take_one hja, List.append_assoc])
          have hul : (U ++ fx.take j).length ≤ 120 := by rw [List.length_append, List.length_take]; omega
          clear hcell2
          obtain ⟨y, hy⟩ : ∃ y, y = fx[j] := ⟨_, rfl⟩
          rw [← hy] at c0 c1 hkey hnx
          clear hy
          obtain ⟨V, hV⟩ : ∃ V, V = U ++ fx.take j := ⟨_, rfl⟩
          rw [← hV] at hown hcnt hnx hul
          clear hV
          have hcy := hcnt.2 y hkey.out
          have hcn := hid (cnt_next hcnt hkey.out)
          have hle := List.count_le_length (a := y) (l := V)
          obtain ⟨cc, hcc⟩ : ∃ cc, cc = V.count y := ⟨_, rfl⟩
          rw [← hcc] at hcy hcn hle
          clear hcc
          have hcn0 : (0 : Int) ≤ (cc : Int) := by omega
          have hcn1 : (cc : Int) ≤ 120 := by omega
          have hown1 := hown.alloc (.cells #[.string y.1, .int .i64 y.2] 82)
          have hB1 : Below w1.heap.size w1 (wr.alloc (.cells #[.string y.1, .int .i64 y.2] 82)) := hB.alloc hB.size _
          have hkk := key_at hkey.out
          unfold seV at hkk
          obtain ⟨v0, st, w2, w4, g1, g2, g3, g4, g5, g6, g7⟩ := count_entry hown1.drew rf_law Try.underlying86 Try.underlying3 rf_zero hkk (by unfold maxLen; omega) hcy (by simp [Lit.wf, IntKind.min, IntKind.max, IntKind.signed, IntKind.bits]; omega)
          simp only [goInt] at g2 g4
          go_wp2_with fail
          go_region
          have hB4 := Below.grown hB1.drew g7 (by have := hB1.size; exact this) (fun j hj => by cases hj; exact Nat.le_refl _)
          clear g1 g2 g3 g4 g6 g7 hown hown1 hcnt hcy hkk hB hB1
          go_wp2_with fail
          go_roundw
          case rel => exact ⟨j + 1, by omega, by go_num, ⟨_, by rw [hnx.out, List.length_append]; exact g5, by rw [hnx.out]; exact hcn.out⟩, hB4⟩
          case measure => simp [intOf]; omega
        · obtain rfl : j = mx := by omega
          go_wp2_with fail
          go_roundw
          case rel => exact ⟨k + 1, by omega, by go_num, ⟨D, by rw [hupm.out]; exact hown, by rw [hupm.out]; exact hcnt⟩, hB⟩
          case measure => simp [intOf]; omega
    · have hkn : n = k := by omega
      subst hkn
      have hall := hid (show upF l n = allF (l.map Ws.d) by rw [HN.out]; exact upF_all l)
      rw [hall.out] at hown hcnt
      obtain ⟨F, hFe⟩ : ∃ F, F = allF (l.map Ws.d) := ⟨_, rfl⟩
      rw [← hFe] at hown hcnt hall
      have HFE := hid hFe
      clear hFe
      obtain ⟨wq, hq⟩ : ∃ wq, wq = wr := ⟨_, rfl⟩
      subst hq
      have hzq := hB.size
      have hb0 := box_new wq
      have hBq : Below wq.heap.size wq ((wq.alloc (.cells #[] 82)).alloc (.cells #[.slice (some ⟨wq.heap.size, 0, none⟩) 0 0] 43)) := ((Below.refl _ _).alloc (Nat.le_refl _) _).alloc (by simp) _
      have hlq : wq.heap.size + 1 < ((wq.alloc (.cells #[] 82)).alloc (.cells #[.slice (some ⟨wq.heap.size, 0, none⟩) 0 0] 43)).heap.size := by simp
      have hlen120 : ∀ L : List Se, (onceF F L).length ≤ L.length := onceF_len F
      go_wp2_with fail
      go_loopw [11, 13, 42, 49] (fun _ _ i _ wr => ∃ (k g c : Nat), k ≤ n ∧ i = .int .i64 k ∧ BoxF wq.heap.size (wq.heap.size + 1) (onceF F (upF l k)) (onceF F (upF l k)).length wr g c ∧ Below wq.heap.size wq wr ∧ wq.heap.size + 1 < wr.heap.size) (fun _ _ i _ _ => n - (intOf i).toNat)
      case atStart => exact ⟨0, _, _, Nat.zero_le _, rfl, hb0, hBq, hlq⟩
      case round =>
        clear hb0 hBq hlq
        obtain ⟨k, g, c, hk, rfl, hbx, hBw, hlw⟩ := hrel
        by_cases hlt : k < n
        · rcases hrd with hnil | ⟨b, o, rfl, hl1, hcell⟩
          · exact absurd (by rw [HN.out, hnil]; rfl : n = 0) (by omega)
          have hka : k < l.length := by rw [← HN.out]; exact hlt
          have hnd := (HS.out _ (List.getElem_mem hka)).2
          have hk0 : (0 : Int) ≤ (k : Int) := by omega
          have hkn : (k : Int) < (n : Int) := by omega
          have hup := hid (upF_succ hka)
          have hlen := HL.out k (by omega)
          have hfo := hid (HF.out _ (List.getElem_mem hka))
          obtain ⟨h1, h2⟩ := ((hcell k hka).below hB hl1).below hBw (by omega)
          have R1 := hid (HG.out _ (List.getElem_mem hka)).rd
          clear hcell
          obtain ⟨x, hx⟩ : ∃ x, x = l[k] := ⟨_, rfl⟩
          rw [← hx] at h1 h2 R1 hnd hup hfo
          clear hx
          obtain ⟨nx, ax, cx, fx⟩ := x
          dsimp only at h1 h2 R1 hnd hup hfo
          obtain ⟨U, hU⟩ : ∃ U, U = upF l k := ⟨_, rfl⟩
          rw [← hU] at hup hbx hlen
          obtain ⟨mx, hmx⟩ : ∃ m, m = fx.length := ⟨_, rfl⟩
          rw [← hmx] at h2 hnd
          have HMX := hid hmx
          have hm10 : mx ≤ 10 := by rw [hmx]; exact hfo.out.len
          clear hmx hU
          have hBB : Below wq.heap.size wq (wr.alloc (.cells #[.string nx, .slice ax mx cx] 80)) := hBw.alloc hBw.size _
          have hbx1 := hbx.alloc hlw (.cells #[.string nx, .slice ax mx cx] 80)
          have hlw1 : wq.heap.size + 1 < (wr.alloc (.cells #[.string nx, .slice ax mx cx] 80)).heap.size := by simp; omega
          have hup0 : U ++ fx.take 0 = U := by simp
          have hupm := hid (show upF l (k + 1) = U ++ fx.take mx by rw [hup.out, HMX.out, List.take_length])
          clear hup hBw hbx hlw
          go_wp2_with fail
          go_loopw [13, 49] (fun _ i wi => ∃ (j g c : Nat), j ≤ mx ∧ i = .int .i64 j ∧ BoxF wq.heap.size (wq.heap.size + 1) (onceF F (U ++ fx.take j)) (onceF F (U ++ fx.take j)).length wi g c ∧ Below wq.heap.size wq wi ∧ wq.heap.size + 1 < wi.heap.size) (fun _ i _ => mx - (intOf i).toNat)
          case atStart => exact ⟨0, g, c, Nat.zero_le _, rfl, by rw [hup0]; exact hbx1, hBB, hlw1⟩
          case round =>
            clear hbx1 hBB h1 h2 hlw1
            obtain ⟨j, g, c, hj, rfl, hbx, hBw, hlw⟩ := hrel
            by_cases hjt : j < mx
            · rcases rd_se R1.out with hnil | ⟨b2, o2, rfl, hl2, hcell2⟩
              · exact absurd (by rw [HMX.out, hnil]; rfl : mx = 0) (by omega)
              have hja : j < fx.length := by rw [← HMX.out]; exact hjt
              have hj0 : (0 : Int) ≤ (j : Int) := by omega
              have hjm : (j : Int) < (mx : Int) := by omega
              have hBt := hB.trans (hBw.mono hB.size)
              have c0 := (hBt.cell (p := ⟨b2, o2 + j * 2, none⟩) hl2).trans (hcell2 j hja).1
              have c1 := (hBt.cell (p := ⟨b2, o2 + j * 2 + 1, none⟩) hl2).trans (hcell2 j hja).2
              have hkey := hid (hfo.out.key _ (List.getElem_mem hja))
              have hnx := hid (show U ++ fx.take (j + 1) = (U ++ fx.take j) ++ [fx[j]] by rw [take_one hja, List.append_assoc])
              have hul : (U ++ fx.take j).length ≤ 120 := by rw [List.length_append, List.length_take]; omega
              clear hcell2
              obtain ⟨y, hy⟩ : ∃ y, y = fx[j] := ⟨_, rfl⟩
              rw [← hy] at c0 c1 hkey hnx
              clear hy
              obtain ⟨V, hV⟩ : ∃ V, V = U ++ fx.take j := ⟨_, rfl⟩
              rw [← hV] at hnx hul hbx
              clear hV
              have hon := hid (onceF_snoc F V y)
              have hN1 := hlen120 V
              obtain ⟨O, hO⟩ : ∃ O, O = onceF F V := ⟨_, rfl⟩
              rw [← hO] at hon hN1 hbx
              clear hO
              obtain ⟨N, hN⟩ : ∃ N, N = O.length := ⟨_, rfl⟩
              rw [← hN] at hN1 hbx
              have HNN := hid hN
              clear hN
              have hcy := hcnt.2 y hkey.out
              have hkk := key_at hkey.out
              unfold seV at hkk
              have hownw := (hown.kept (grown_of_below hBw (row := none)) (by simp)).alloc (.cells #[.string y.1, .int .i64 y.2] 82)
              obtain ⟨cc, hlk, hat, _⟩ := hownw.lookup_int rf_keyed Try.underlying86 Try.underlying3 (rf_zero _) hkk
              rw [hcy] at hat
              have hcc : ((F.count y : Nat) : Int) = cc := by simpa using hat
              clear hat hcy hkk
              have hbx1 := hbx.alloc hlw (.cells #[.string y.1, .int .i64 y.2] 82)
              have hB1 : Below wq.heap.size wq (wr.alloc (.cells #[.string y.1, .int .i64 y.2] 82)) := hBw.alloc hBw.size _
              have k0 := hbx1.cell
              have k1 := hbx1.froz
              have hzb : wq.heap.size + 1 < (wr.alloc (.cells #[.string y.1, .int .i64 y.2] 82)).heap.size := by simp; omega
              have hbx2 := hbx1.alloc hzb (.cells #[.string y.1, .int .i64 y.2] 82)
              have ka0 := hbx2.cell
              have ka1 := hbx2.froz
              have hza : wq.heap.size + 1 < ((wr.alloc (.cells #[.string y.1, .int .i64 y.2] 82)).alloc (.cells #[.string y.1, .int .i64 y.2] 82)).heap.size := by simp; omega
              clear hbx2
              by_cases he : F.count y = 1
              · have d1 : (cc == (1 : Int)) = true := eqI_true (by omega)
                have hst := hid (show onceF F (U ++ fx.take (j + 1)) = O ++ [y] by rw [hnx.out, hon.out, if_pos he])
                go_wp2_with (at_builtin; refine wpList_append_own_at _ rfl _ _ 43 rfl wq.heap.size 82 i0 (.agg #[.string ByteArray.empty, .int .i64 0]) 2 24 Try.underlying43 hi iz0 iz1 iz2 rfl (by decide) (.slice (some ⟨g, 0, none⟩) N c) _ _ rfl (hbx1.row.alloc _) ⟨_, 0, none⟩ 1 1 [.string y.1, .int .i64 y.2] rfl rfl (two_newF _ _ _ _ _) (two_okF _ _) (by unfold maxLen; omega) (by omega) (by simp; omega) ?_; intro v7 w7 hown7 hgrow7 _ hloc7; rcases owns_form hown7 with ⟨_, h00, _⟩ | ⟨g7, c7, rfl, _⟩; (exfalso; omega); have m0 := (cell_grown hgrow7 hza hbx1.ne).trans ka0; have m1 := (frozen_grown hgrow7 hza hbx1.ne).trans ka1)
                have hB7 := below_grown (hB1.alloc hB1.size _) (by simp; omega) (hbx1.row.alloc _) hgrow7
                have hne7 : g7 ≠ wq.heap.size + 1 := by
                  rcases hloc7 with h | h
                  · have : g7 = g := by simpa [Value.ownBlock] using h
                    rw [this]; exact hbx1.ne
                  · have : g7 = ((wr.alloc (.cells #[.string y.1, .int .i64 y.2] 82)).alloc (.cells #[.string y.1, .int .i64 y.2] 82)).heap.size := by simpa [Value.ownBlock] using h
                    omega
                have hz7 : wq.heap.size + 1 < w7.heap.size := Nat.lt_of_lt_of_le hza hgrow7.size
                rw [ses_snoc] at hown7
                have hNO : (O ++ [y]).length = N + 1 := by rw [List.length_append, ← HNN.out]; rfl
                have hbx7 := box_set m0 m1 hne7 hown7
                go_roundw
                case rel => exact ⟨j + 1, g7, c7, by omega, by go_num, by rw [hst.out, hNO]; exact hbx7, hB7.setCell (by simp) _, by simpa [World.setCell] using hz7⟩
                case measure => simp [intOf]; omega
              · have d1 : (cc == (1 : Int)) = false := eqI_false (by omega)
                have hst := hid (show onceF F (U ++ fx.take (j + 1)) = O by rw [hnx.out, hon.out, if_neg he, List.append_nil])
                go_wp2_with fail
                go_roundw
                case rel => exact ⟨j + 1, g, c, by omega, by go_num, by rw [hst.out, ← HNN.out]; exact hbx1, hB1, hzb⟩
                case measure => simp [intOf]; omega
            · obtain rfl : j = mx := by omega
              go_wp2_with fail
              go_roundw
              case rel => exact ⟨k + 1, g, c, by omega, by go_num, by rw [hupm.out]; exact hbx, hBw, hlw⟩
              case measure => simp [intOf]; omega
        · have hkn : n = k := by omega
          subst hkn
          rw [hall.out] at hbx
          clear hrd
          obtain ⟨N, hN⟩ : ∃ N, N = (onceF F F).length := ⟨_, rfl⟩
          have hl120 := HL.out n (by rw [← HN.out]; exact Nat.le_refl _)
          rw [hall.out] at hl120
          have hN1 := hlen120 F
          rw [← hN] at hbx hN1
          have k0 := hbx.cell
          have hne : ¬ wq.heap.size + 1 = g := fun e => hbx.ne e.symm
          have hcl := hbx.row
          have HN := hid hN
          have h1m : N ≤ 1048576 := by omega
          clear hlen120 hN hown hcnt hm0 hB0 hmm
          go_wp2_with (go_at_call 52; refine (rfSort_any wq.heap.size g c N (wq.heap.size + 1) (onceF F F) _ HN.out h1m k0 hne hlw hcl).mono ?_; rintro e w5 ⟨rfl, hS⟩; have m0 := (sortedSe_cell hS hlw hbx.ne).trans k0)
          go_ret2
          have hN := HN.out
          obtain ⟨d, hperm, hsrt, hgr, hrow⟩ := hS
          have hA : d = rfS (l.map Ws.d) := rare_eq H1.out (by rw [← HFE.out]; exact hperm) hsrt
          have hdl : d.length = N := by rw [hperm.length_eq, ← hN]
          rw [hR.out, ← hA]
          have hzw := HB1.out.size
          refine ⟨_, c, by rw [hdl]; rfl, by rw [hdl]; exact owns_mono hrow (by omega), ?_⟩
          have hBe := below_grown (v := .slice (some ⟨g, 0, none⟩) N c) (hB.trans (hBw.mono hzq)) (by omega) (owns_mono hbx.row hzq) hgr
          exact HB1.out.trans (hBe.mono hzw)
end Go.Proofs.Ytnjdoedhhpkjhaa
