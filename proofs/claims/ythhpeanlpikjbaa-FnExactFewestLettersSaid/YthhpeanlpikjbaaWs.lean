/-
  Machines: what a list of machines reads (a struct with a slice of its own), how it is opened, sizes, copy, equal.
-/
import Derived.Test.YthhpeanlpikjbaaFaceF
import Derived.Test.YthhpeanlpikjbaaFaceC
import Derived.Lib.SmallJoins
namespace Go.Proofs.Ythhpeanlpikjbaa
open Go.RowKit Go.ChangeShapes Go.WideShapes
set_option linter.unusedVariables false
attribute [local go_sem ↓] Go.wp_at_zero Go.wp_at_succ

structure Ws where
  nm : ByteArray
  ao : Option Addr
  cap : Nat
  fs : List Se
instance : Inhabited Ws := ⟨⟨ByteArray.empty, none, 0, []⟩⟩
abbrev WsD := ByteArray × List Se
/-- what a machine says, without the place of its faults -/
def Ws.d (x : Ws) : WsD := (x.nm, x.fs)
def wsF (x : Ws) : List Value := [.string x.nm, .slice x.ao x.fs.length x.cap]
def wss (l : List Ws) : List Value := flat wsF l
theorem wsF_len (x : Ws) : (wsF x).length = 2 := rfl
theorem wss_len (l : List Ws) : (wss l).length = l.length * 2 := flat_len wsF_len l
theorem wss_get0 (l : List Ws) (j : Nat) (hj : j < l.length) : (wss l)[j * 2]? = some (.string l[j].nm) := by
  have := flat_get wsF_len l j 0 hj (by omega)
  unfold wss
  simpa [wsF] using this
theorem wss_get1 (l : List Ws) (j : Nat) (hj : j < l.length) : (wss l)[j * 2 + 1]? = some (.slice l[j].ao l[j].fs.length l[j].cap) := by
  have := flat_get wsF_len l j 1 hj (by omega)
  unfold wss
  simpa [wsF] using this
theorem wss_set (l : List Ws) (j : Nat) (x : Ws) (hj : j < l.length) :
    ((wss l).set (j * 2) (.string x.nm)).set (j * 2 + 1) (.slice x.ao x.fs.length x.cap) = wss (l.set j x) := by
  apply flat_ext (n := l.length) (sz := 2)
  · simp [wss_len]
  · simp [wss_len]
  · intro k i hk hi
    have hr := flat_get wsF_len (l.set j x) k i (by simpa using hk) hi
    have hl := flat_get wsF_len l k i hk hi
    unfold wss at *
    rw [hr]
    have hle : (flat wsF l).length = l.length * 2 := flat_len wsF_len l
    have hjk := flat_lt (sz := 2) (i := 1) hj (by omega)
    by_cases e : j = k
    · subst e
      rcases (show i = 0 ∨ i = 1 by omega) with rfl | rfl
      · rw [List.getElem?_set_ne (by omega), Nat.add_zero, List.getElem?_set_self (by omega)]
        simp [wsF]
      · rw [List.getElem?_set_self (by simp; omega)]
        simp [wsF]
    · rw [List.getElem?_set_ne (by omega), List.getElem?_set_ne (by omega), hl]
      simp [List.getElem_set_ne e]
/-- the two cells of a machine -/
structure WsCells (w : World) (b o : Nat) (x : Ws) : Prop where
  c0 : w.cell? ⟨b, o, none⟩ = some (.string x.nm)
  c1 : w.cell? ⟨b, o + 1, none⟩ = some (.slice x.ao x.fs.length x.cap)
theorem WsCells.below {w w' : World} {B b o : Nat} {x : Ws} (h : WsCells w b o x) (hb : Below B w w') (hB : b < B) : WsCells w' b o x :=
  ⟨(hb.cell (p := ⟨b, o, none⟩) hB).trans h.c0, (hb.cell (p := ⟨b, o + 1, none⟩) hB).trans h.c1⟩
theorem rd_ws {w : World} {ao : Option Addr} {l : List Ws} (h : Rd w ao (wss l)) : l = [] ∨ ∃ b o, ao = some ⟨b, o, none⟩ ∧ b < w.heap.size ∧ ∀ j (hj : j < l.length), WsCells w b (o + j * 2) l[j] := by
  rcases h with h | ⟨b, o, h1, h2, h3⟩
  · left
    have := congrArg List.length h
    rw [wss_len] at this
    exact List.eq_nil_of_length_eq_zero (by simp at this; omega)
  · right
    refine ⟨b, o, h1, h2, fun j hj => ⟨?_, ?_⟩⟩
    · have hlt : j * 2 < (wss l).length := by rw [wss_len]; omega
      rw [h3 (j * 2) hlt, ← List.getElem?_eq_getElem hlt, wss_get0 l j hj]
    · have hlt : j * 2 + 1 < (wss l).length := by rw [wss_len]; omega
      rw [Nat.add_assoc, h3 (j * 2 + 1) hlt, ← List.getElem?_eq_getElem hlt, wss_get1 l j hj]
/-- what is known of a machine that can be read -/
structure WsGood (w : World) (y : Ws) : Prop where
  n1 : y.nm.size ≤ maxLen
  n2 : y.fs.length ≤ maxLen
  sm : seSmall y.fs
  rd : Rd w y.ao (ses y.fs)
theorem WsGood.below {w w' : World} {y : Ws} (h : WsGood w y) (hb : Below w.heap.size w w') : WsGood w' y := ⟨h.n1, h.n2, h.sm, rd_below h.rd hb⟩
def WsArg (w : World) (ao : Option Addr) (n cap : Nat) (l : List Ws) : Prop := n = l.length ∧ n ≤ maxLen ∧ Rd w ao (wss l) ∧ ∀ y ∈ l, WsGood w y
theorem WsArg.below {w w' : World} {ao : Option Addr} {n cap : Nat} {l : List Ws} (h : WsArg w ao n cap l) (hb : Below w.heap.size w w') : WsArg w' ao n cap l :=
  ⟨h.1, h.2.1, rd_below h.2.2.1 hb, fun y hy => (h.2.2.2 y hy).below hb⟩
theorem Try.cellsWs : Try.prog.cellsOf 38 = 2 := by kernel_rfl
theorem Try.cellsTfS : Try.prog.cellsOf 36 = 1 := by kernel_rfl
section
variable {H : Type} {enc : TypeId × Value → H} {W : World} {base : Nat} {spare : Nat → Bool} {held : Bool}
set_option maxRecDepth 100000 in
theorem elem_ws (n : Nat) (cs : List Value) (x : DataW H × List MemPlace) (h : DataW.trod enc Try.prog W base spare held n 38 cs = some x) : ∃ y : Ws, cs = wsF y ∧ WsGood W y := by
  obtain ⟨y0, y1, m, _, hl, h0, h1⟩ := trod_struct2 Try.underlying38 h
  rw [Try.cellsWs] at hl
  match cs, hl with
  | [c0, c1], _ =>
    simp only [Try.cellsStr, Try.cellsTfS, List.drop_succ_cons, List.drop_zero, List.take_succ_cons, List.take_zero] at h0 h1
    obtain ⟨s0, e0, _, w0⟩ := DataW.trod_string Try.underlying9 h0
    obtain ⟨ao, n1, cap, l, he, q1, q2, q3, q4⟩ := openTfC h1
    simp at e0 he
    subst e0; subst he; subst q1
    exact ⟨⟨s0, ao, cap, l⟩, rfl, w0, q2, q4, q3⟩
set_option maxRecDepth 100000 in
theorem openWs {r : Reach} {b0 : Nat} {v : Value} {d : DataW H} {p : List MemPlace}
    (hv : Value.okWide Try.prog W r b0 29 v) (h : DataW.Trod enc Try.prog W base spare held 29 v d p) :
    ∃ (ao : Option Addr) (n cap : Nat) (l : List Ws), v = .slice ao n cap ∧ WsArg W ao n cap l :=
  openFlat (sz := 2) (f := wsF) (good := fun y => WsGood W y) wsF_len (by omega) Try.underlying29 Try.cellsWs elem_ws hv h
end
/-- behind several machines -/
def szWs (left : Int) : List Ws → Int
  | [] => left
  | x :: r => if szWr x.nm x.fs.length x.fs left < 0 then -1 else szWs (szWr x.nm x.fs.length x.fs left) r
def szAllWs (left : Int) (n : Nat) (l : List Ws) : Int := if left - (n : Int) < 0 then -1 else szWs (left - n) l
theorem szAllWs_big {lf : Int} {n : Nat} {l : List Ws} (h : lf - (n : Int) < 0) : szAllWs lf n l = -1 := by rw [szAllWs, if_pos h]
theorem szAllWs_small {lf : Int} {n : Nat} {l : List Ws} (h : ¬ lf - (n : Int) < 0) : szAllWs lf n l = szWs (lf - n) l := by rw [szAllWs, if_neg h]
theorem szAllWs_len {lf : Int} {n : Nat} {l : List Ws} (h1 : lf ≤ 1048576) (h : ¬ szAllWs lf n l < 0) : n ≤ 1048576 := by
  by_cases hb : lf - (n : Int) < 0
  · rw [szAllWs_big hb] at h; omega
  · omega
def WsOne (x : Ws) : Prop := x.nm.size ≤ 1048576 ∧ x.fs.length ≤ 1048576
theorem szWs_le (l : List Ws) : ∀ lf : Int, 0 ≤ lf → lf ≤ 1048576 → szWs lf l ≤ lf ∧ (0 ≤ szWs lf l → ∀ x ∈ l, WsOne x) := by
  induction l with
  | nil => intro lf _ _; exact ⟨by simp [szWs], fun _ x hx => by simp at hx⟩
  | cons x r ih =>
    intro lf h h1
    rw [szWs]
    have hb := szWr_le (x := x.nm) (n := x.fs.length) (l := x.fs) (left := lf) h h1
    split
    · exact ⟨by omega, fun h => by omega⟩
    · rename_i hneg
      have h0 : 0 ≤ szWr x.nm x.fs.length x.fs lf := by omega
      have hi := ih _ h0 (by omega)
      refine ⟨by omega, fun hz y hy => ?_⟩
      rcases List.mem_cons.1 hy with rfl | hy
      · have := szWr_ok h1 hneg
        exact ⟨this.2, this.1⟩
      · exact hi.2 hz y hy
theorem szAllWs_le (lf : Int) (n : Nat) (l : List Ws) (h : 0 ≤ lf) (h1 : lf ≤ 1048576) : szAllWs lf n l ≤ 1048576 := by
  unfold szAllWs
  split
  · omega
  · have := (szWs_le l (lf - n) (by omega) (by omega)).1
    omega
def WsSmall (l : List Ws) : Prop := l.length ≤ 1048576 ∧ ∀ x ∈ l, WsOne x
theorem szAllWs_small2 {lf : Int} {n : Nat} {l : List Ws} (hn : n = l.length) (h : 0 ≤ lf) (h1 : lf ≤ 1048576) (hz : ¬ szAllWs lf n l < 0) : WsSmall l := by
  have hl := szAllWs_len h1 hz
  refine ⟨by omega, fun x hx => ?_⟩
  by_cases hb : lf - (n : Int) < 0
  · rw [szAllWs_big hb] at hz; omega
  · rw [szAllWs_small hb] at hz
    exact (szWs_le l (lf - n) (by omega) (by omega)).2 (by omega) x hx
set_option maxHeartbeats 4000000 in
theorem szWriterS_any (ao : Option Addr) (n cap : Nat) (l : List Ws) (lf : Int) (w : World) (hf0 : 0 ≤ lf) (hf1 : lf ≤ 1048576) (ha : WsArg w ao n cap l) :
    Calls Try.prog 17 #[.slice ao n cap, .int .i64 lf] w fun e w' => e = .returned (.int .i64 (szAllWs lf n l)) ∧ Below w.heap.size w w' := by
  obtain ⟨hn, hm, hr, hg⟩ := ha
  unfold maxLen at hm
  by_cases hbig : lf - (n : Int) < 0
  · go_enter Try.func17, Try.ntmps17
    go_wp2
    go_ret
    exact ⟨ret_int (szAllWs_big (by omega)).symm, Below.refl _ _⟩
  · have HN := hid hn
    have HG := hid hg
    have hrd := rd_ws hr
    clear hn hr hg
    have hR := hid (szAllWs_small (l := l) hbig)
    go_enter Try.func17, Try.ntmps17
    go_wp2
    go_loopw [1, 5] (fun lv i wr => ∃ (k : Nat) (left : Int), k ≤ n ∧ i = .int .i64 k ∧ lv = .int .i64 left ∧ 0 ≤ left ∧ left ≤ 1048576 ∧ Hid (szWs (lf - n) l = szWs left (l.drop k)) ∧ Below w.heap.size w wr) (fun _ i _ => n - (intOf i).toNat)
    case atStart => exact ⟨0, _, Nat.zero_le _, rfl, rfl, by omega, by omega, rfl, Below.refl _ _⟩
    case round =>
      obtain ⟨k, left, hk, rfl, rfl, hl0, hl1, hS, hB⟩ := hrel
      by_cases hlt : k < n
      · rcases hrd with hnil | ⟨b, o, rfl, hbl, hcell⟩
        · exact absurd (by rw [HN.out, hnil]; rfl : n = 0) (by omega)
        · have hkl : k < l.length := by rw [← HN.out]; exact hlt
          obtain ⟨g1, g2⟩ := (hcell k hkl).below hB hbl
          obtain ⟨hs1, hs2, hs3, hs4⟩ := HG.out _ (List.getElem_mem hkl)
          have hr4 := rd_below hs4 hB
          clear hcell hs4
          have hk0 : (0 : Int) ≤ (k : Int) := by omega
          have hkn : (k : Int) < (n : Int) := by omega
          obtain ⟨x, hx⟩ : ∃ x, x = l[k] := ⟨_, rfl⟩
          have hst := hid (show szWs left (l.drop k) = if szWr x.nm x.fs.length x.fs left < 0 then -1 else szWs (szWr x.nm x.fs.length x.fs left) (l.drop (k + 1)) by rw [List.drop_eq_getElem_cons hkl, hx]; rfl)
          rw [← hx] at g1 g2 hs1 hs2 hs3 hr4
          have Hx := hid hx
          clear hx
          obtain ⟨v, hv⟩ : ∃ v, v = szWr x.nm x.fs.length x.fs left := ⟨_, rfl⟩
          have hzl := szWr_le (x := x.nm) (n := x.fs.length) (l := x.fs) (left := left) hl0 hl1
          rw [← hv] at hzl hst
          have HV := hid hv
          clear hv
          obtain ⟨mx, hmx⟩ : ∃ m, m = x.fs.length := ⟨_, rfl⟩
          rw [← hmx] at g2 hs2 HV
          have HMX := hid hmx
          clear hmx
          by_cases hz : v < 0
          · go_wp2_with (go_at_call 22; refine (szWriter_any _ _ mx _ x.fs _ _ hs1 hl0 hl1 HMX.out hs2 hr4 hs3).mono ?_; rw [← HV.out]; rintro e w' ⟨rfl, hb⟩)
            go_ret
            exact ⟨ret_int (by rw [hR.out, hS.out, hst.out, if_pos (by omega)]), hB.trans (hb.mono hB.size)⟩
          · go_wp2_with (go_at_call 22; refine (szWriter_any _ _ mx _ x.fs _ _ hs1 hl0 hl1 HMX.out hs2 hr4 hs3).mono ?_; rw [← HV.out]; rintro e w' ⟨rfl, hb⟩)
            go_roundw
            case rel => exact ⟨k + 1, _, by omega, by go_num, rfl, by omega, by omega, hid (by rw [hS.out, hst.out, if_neg (by omega)]), hB.trans (hb.mono hB.size)⟩
            case measure => simp [intOf]; omega
      · obtain rfl : k = n := by omega
        have hd := hid (show l.drop k = [] from List.drop_eq_nil_of_le (by rw [HN.out]; exact Nat.le_refl _))
        go_wp2
        go_ret
        exact ⟨ret_int (by rw [hR.out, hS.out, hd.out]; rfl), hB⟩
/-- what is read in another block than that which is written -/
theorem rd_setCell {w : World} {ao : Option Addr} {xs : List Value} (h : Rd w ao xs) (a : Addr) (v : Value) (hne : ∀ q, ao = some q → q.block ≠ a.block) : Rd (w.setCell a v) ao xs := by
  rcases h with h | ⟨b, o, rfl, h2, h3⟩
  · exact .inl h
  · refine .inr ⟨b, o, rfl, by simpa using h2, fun j hj => ?_⟩
    rw [World.cell?_setCell_other _ _ _ _ (by have := hne _ rfl; intro e; apply this; rw [e])]
    exact h3 j hj
/-- the copies so far: each with its faults in a row of the call's own, above the first row, each above its elders -/
def WsDone (w : World) (B : Nat) (M l : List Ws) (k : Nat) : Prop := M.length = k ∧ M.map Ws.d = (l.take k).map Ws.d ∧ (∀ x ∈ M, w.ownsRow (B + 1) 109 2 (.slice x.ao x.fs.length x.cap) x.fs.length (ses x.fs)) ∧
  M.Pairwise (fun x y => (Value.slice x.ao x.fs.length x.cap).ownBlock = none ∨ (Value.slice x.ao x.fs.length x.cap).ownBlock ≠ (Value.slice y.ao y.fs.length y.cap).ownBlock)
theorem WsDone.below {w w' : World} {B : Nat} {M l : List Ws} {k : Nat} (h : WsDone w B M l k) (hb : Below w.heap.size w w') : WsDone w' B M l k :=
  ⟨h.1, h.2.1, fun x hx => owns_below (h.2.2.1 x hx) hb, h.2.2.2⟩
theorem WsDone.set {w : World} {B : Nat} {M l : List Ws} {k : Nat} (h : WsDone w B M l k) (j : Nat) (v : Value) : WsDone (w.setCell ⟨B, j, none⟩ v) B M l k :=
  ⟨h.1, h.2.1, fun x hx => ownsRow_setCell_below (h.2.2.1 x hx) (by show B < B + 1; omega) v, h.2.2.2⟩
def ws0 : Ws := ⟨ByteArray.empty, none, 0, []⟩
def wsRow (M : List Ws) (n : Nat) : List Ws := M ++ List.replicate (n - M.length) ws0
theorem wsRow_len {M : List Ws} {n : Nat} (h : M.length ≤ n) : (wsRow M n).length = n := by simp [wsRow]; omega
theorem wsRow_set {M : List Ws} {n : Nat} (x : Ws) (h : M.length < n) : (wsRow M n).set M.length x = wsRow (M ++ [x]) n := by
  unfold wsRow
  have e : n - M.length = (n - (M ++ [x]).length) + 1 := by simp; omega
  rw [e, List.replicate_succ, List.set_append_right _ _ (Nat.le_refl _), Nat.sub_self, List.set_cons_zero, List.append_assoc]
  rfl
theorem wsRow_all (M : List Ws) : wsRow M M.length = M := by simp [wsRow]
theorem Try.infoWs : (Try.prog.info? 44).map (fun i => (i.zero, i.size, i.bytes)) = some (some (.agg #[.string ByteArray.empty, .slice none 0 0]), 2, 40) := by kernel_rfl
/-- a list of machines of the call's own: its row, and the rows of its faults -/
structure WsOwn (w : World) (B : Nat) (bo : Option Addr) (n cap : Nat) (M : List Ws) : Prop where
  len : n = M.length
  row : w.ownsRow B 44 2 (.slice bo n cap) n (wss M)
  inner : ∀ x ∈ M, w.ownsRow (B + 1) 109 2 (.slice x.ao x.fs.length x.cap) x.fs.length (ses x.fs)
  apart : M.Pairwise (fun x y => (Value.slice x.ao x.fs.length x.cap).ownBlock = none ∨ (Value.slice x.ao x.fs.length x.cap).ownBlock ≠ (Value.slice y.ao y.fs.length y.cap).ownBlock)
  first : ∀ g, (Value.slice bo n cap).ownBlock = some g → g = B
theorem WsOwn.below {w w' : World} {B : Nat} {bo : Option Addr} {n cap : Nat} {M : List Ws} (h : WsOwn w B bo n cap M) (hb : Below w.heap.size w w') : WsOwn w' B bo n cap M :=
  ⟨h.len, owns_below h.row hb, fun x hx => owns_below (h.inner x hx) hb, h.apart, h.first⟩
theorem WsOwn.arg {w : World} {B : Nat} {bo : Option Addr} {n cap : Nat} {M : List Ws} (h : WsOwn w B bo n cap M) (hs : WsSmall M) (h2 : ∀ x ∈ M, seSmall x.fs) : WsArg w bo n cap M :=
  ⟨h.len, by rw [h.len]; have := hs.1; unfold maxLen; omega, owns_rdN h.row, fun y hy => ⟨by have := (hs.2 y hy).1; unfold maxLen; omega, by have := (hs.2 y hy).2; unfold maxLen; omega, h2 y hy, owns_rdN (h.inner y hy)⟩⟩
def WssRet (w : World) (l : List Ws) (e : Ending) (w' : World) : Prop :=
  ∃ bo cap M, e = .returned (.slice bo l.length cap) ∧ WsOwn w' w.heap.size bo l.length cap M ∧ M.map Ws.d = l.map Ws.d ∧ Below w.heap.size w w'
theorem ws_at {l M : List Ws} (h : l.map Ws.d = M.map Ws.d) {k : Nat} (h1 : k < l.length) (h2 : k < M.length) : l[k].nm = M[k].nm ∧ l[k].fs = M[k].fs := by
  have := congrArg (fun L => L[k]?) h
  simp only [List.getElem?_map, List.getElem?_eq_getElem h1, List.getElem?_eq_getElem h2, Option.map_some, Option.some.injEq, Ws.d, Prod.mk.injEq] at this
  exact this
theorem ws_len {l M : List Ws} (h : l.map Ws.d = M.map Ws.d) : l.length = M.length := by
  have := congrArg List.length h
  simpa using this
theorem ws_good {l M : List Ws} (h : M.map Ws.d = l.map Ws.d) (hs : WsSmall l) : WsSmall M := by
  have hl := ws_len h
  refine ⟨by rw [hl]; exact hs.1, fun x hx => ?_⟩
  obtain ⟨j, hj, rfl⟩ := List.getElem_of_mem hx
  have e := ws_at h hj (by omega : j < l.length)
  have := hs.2 _ (List.getElem_mem (by omega : j < l.length))
  unfold WsOne
  rw [e.1, e.2]
  exact this
theorem ws_sm {l M : List Ws} (h : M.map Ws.d = l.map Ws.d) (hs : ∀ x ∈ l, seSmall x.fs) : ∀ x ∈ M, seSmall x.fs := by
  have hl := ws_len h
  intro x hx
  obtain ⟨j, hj, rfl⟩ := List.getElem_of_mem hx
  have e := ws_at h hj (by omega : j < l.length)
  rw [e.2]
  exact hs _ (List.getElem_mem (by omega : j < l.length))

set_option maxHeartbeats 4000000 in
theorem toWriterS_any (ao : Option Addr) (n cap : Nat) (l : List Ws) (w : World) (ha : WsArg w ao n cap l) (hs : WsSmall l) :
    Calls Try.prog 19 #[.slice ao n cap] w (WssRet w l) := by
  obtain ⟨i0, hi, hz0, hz1, hz2⟩ := info_parts Try.infoWs
  obtain ⟨hn, _, hr, hg⟩ := ha
  have hm : n ≤ 1048576 := by rw [hn]; exact hs.1
  have HN := hid hn
  have HG := hid hg
  have HS := hid hs
  have hrd := rd_ws hr
  clear hn hr hg hs
  go_enter Try.func19, Try.ntmps19
  go_wp2_with (at_make; refine wpList_make_full _ rfl _ _ 32 rfl w.heap.size 44 i0 (.agg #[.string ByteArray.empty, .slice none 0 0]) 2 Try.underlying32 hi hz0 hz1 .i64 .i64 _ _ n rfl rfl rfl rfl (by rw [hz2]; omega) (by unfold maxLen; omega) (Nat.le_refl _) ?_; intro w1 hown hgrow)
  have hB0 : Below w.heap.size w w1 := (Below.refl _ _).grown hgrow (Nat.le_refl _) (by simp)
  have hown0 : w1.ownsRow w.heap.size 44 2 (.slice (some ⟨w.heap.size, 0, none⟩) n n) n (wss (wsRow [] n)) := by
    have e : wsRow [] n = List.replicate n ws0 := by simp [wsRow]
    rw [e, wss, ← made_flat wsF_len (.agg #[.string ByteArray.empty, .slice none 0 0]) ws0 n rfl (by omega)]
    exact hown
  have hlt1 : w.heap.size < w1.heap.size := (hown.lt w.heap.size rfl).2
  clear hown hgrow hi hz0 hz1 hz2
  go_loopw [4] (fun i wr => ∃ (k : Nat) (M : List Ws), k ≤ n ∧ i = .int .i64 k ∧ wr.ownsRow w.heap.size 44 2 (.slice (some ⟨w.heap.size, 0, none⟩) n n) n (wss (wsRow M n)) ∧ WsDone wr w.heap.size M l k ∧ Below w.heap.size w wr) (fun i _ => n - (intOf i).toNat)
  case atStart => exact ⟨0, [], Nat.zero_le _, rfl, hown0, ⟨rfl, rfl, fun x hx => by simp at hx, List.Pairwise.nil⟩, hB0⟩
  case round =>
    clear hown0 hB0 hlt1
    obtain ⟨k, M, hk, rfl, hown, hD, hB⟩ := hrel
    by_cases hlt : k < n
    · rcases hrd with hnil | ⟨b, o, rfl, hbl, hcell⟩
      · exact absurd (by rw [HN.out, hnil]; rfl : n = 0) (by omega)
      · have hkl : k < l.length := by rw [← HN.out]; exact hlt
        obtain ⟨g1, g2⟩ := (hcell k hkl).below hB hbl
        have hq := (HG.out _ (List.getElem_mem hkl)).rd
        have hq2 := (HS.out.2 _ (List.getElem_mem hkl)).2
        clear hcell
        have hk0 : (0 : Int) ≤ (k : Int) := by omega
        have hkn : (k : Int) < (n : Int) := by omega
        obtain ⟨x, hx⟩ : ∃ x, x = l[k] := ⟨_, rfl⟩
        rw [← hx] at g1 g2 hq hq2
        have Hx := hid hx
        clear hx
        have hq1 := rd_below hq hB
        have HD := hid hD
        clear hD hq
        have hlt2 : w.heap.size < wr.heap.size := (hown.lt w.heap.size rfl).2
        obtain ⟨mx, hmx⟩ : ∃ m, m = x.fs.length := ⟨_, rfl⟩
        rw [← hmx] at g2 hq2
        have HMX := hid hmx
        clear hmx
        go_wp2_with fail
        refine (toWriter_any _ _ mx _ x.fs _ HMX.out hq1 hq2).mono ?_
        rintro e w' ⟨qo, qc, rfl, hoq, hb⟩
        have ho2 := owns_below hown hb
        have hfl : (wsRow M n).length = n := wsRow_len (by rw [HD.out.1]; omega)
        have hal : (wss (wsRow M n)).length = n * 2 := by rw [wss_len, hfl]
        obtain ⟨v0, hv0⟩ : ∃ v, w'.cell? ⟨w.heap.size, k * 2, none⟩ = some v := ⟨_, by rw [ho2.cellAt (k * 2) (by omega), List.getElem?_eq_getElem (by rw [hal]; omega)]⟩
        obtain ⟨v1, hv1⟩ : ∃ v, w'.cell? ⟨w.heap.size, k * 2 + 1, none⟩ = some v := ⟨_, by rw [ho2.cellAt (k * 2 + 1) (by omega), List.getElem?_eq_getElem (by rw [hal]; omega)]⟩
        have hf0 := ho2.frozenAt (k * 2)
        have hf1 := ho2.frozenAt (k * 2 + 1)
        have HLT := hid hlt2
        clear hfl hal hlt2
        go_wp2_with fail
        go_roundw
        case rel =>
          refine ⟨k + 1, M ++ [⟨x.nm, qo, qc, x.fs⟩], by omega, by go_num, ?_, ?_, ((hB.trans (hb.mono hB.size)).setCell (by simp) _).setCell (by simp) _⟩
          · have hs := wsRow_set (M := M) (n := n) ⟨x.nm, qo, qc, x.fs⟩ (by rw [HD.out.1]; exact hlt)
            rw [HD.out.1] at hs
            rw [← hs, ← wss_set _ k _ (by rw [wsRow_len (by rw [HD.out.1]; omega)]; exact hlt)]
            rw [← HMX.out]
            exact (ho2.stored (k * 2) _).1.stored (k * 2 + 1) _ |>.1
          · have hD2 := ((HD.out.below hb).set (k * 2) (.string x.nm)).set (k * 2 + 1) (.slice qo mx qc)
            have hoq2 := ownsRow_setCell_below (ownsRow_setCell_below hoq (a := ⟨w.heap.size, k * 2, none⟩) HLT.out (.string x.nm)) (a := ⟨w.heap.size, k * 2 + 1, none⟩) HLT.out (.slice qo mx qc)
            refine ⟨by simp [HD.out.1], ?_, fun y hy => ?_, ?_⟩
            · rw [List.map_append, HD.out.2.1, List.take_succ_eq_append_getElem hkl, List.map_append, ← Hx.out]
              rfl
            · rcases List.mem_append.1 hy with hy | hy
              · exact hD2.2.2.1 y hy
              · simp at hy
                subst hy
                show World.ownsRow _ _ _ _ (.slice qo x.fs.length qc) x.fs.length _
                rw [← HMX.out]
                exact owns_mono hoq2 HLT.out
            · rw [List.pairwise_append]
              refine ⟨HD.out.2.2.2, List.pairwise_singleton _ _, fun y hy z hz => ?_⟩
              simp at hz
              subst hz
              have h1 := HD.out.2.2.1 y hy
              show _ ∨ _ ≠ (Value.slice qo x.fs.length qc).ownBlock
              rw [← HMX.out]
              cases hv : (Value.slice y.ao y.fs.length y.cap).ownBlock with
              | none => exact .inl rfl
              | some j =>
                right
                intro he
                have a1 := (h1.lt j hv).2
                have a2 := (hoq.lt j he.symm).1
                omega
        case measure => simp [intOf]; omega
    · obtain rfl : k = n := by omega
      have hM : wsRow M k = M := by rw [← hD.1]; exact wsRow_all M
      have HM := hid hM
      have hte : l.take k = l := by rw [HN.out]; exact List.take_length
      have HT := hid hte
      have HD := hid hD
      clear hM hte hD
      go_wp2
      go_ret
      rw [HM.out] at hown
      have hmap : M.map Ws.d = l.map Ws.d := by rw [HD.out.2.1, HT.out]
      exact ⟨some ⟨w.heap.size, 0, none⟩, k, M, by rw [← HN.out]; rfl, ⟨by rw [← HN.out]; exact HD.out.1.symm, by rw [← HN.out]; exact hown, HD.out.2.2.1, HD.out.2.2.2, fun g hg => by simp [Value.ownBlock] at hg; exact hg.symm⟩, hmap, hB⟩

set_option maxHeartbeats 2000000 in
theorem eqWriterS_any (ao bo : Option Addr) (n cap cap2 : Nat) (l M : List Ws) (w : World) (ha : WsArg w ao n cap l) (hb : WsArg w bo n cap2 M) (hd : l.map Ws.d = M.map Ws.d) (hs : WsSmall l) :
    Calls Try.prog 21 #[.slice ao n cap, .slice bo n cap2] w fun e w' => e = .returned (.bool true) ∧ Below w.heap.size w w' := by
  obtain ⟨hn, _, hr, hg⟩ := ha
  obtain ⟨hn2, _, hr2, hg2⟩ := hb
  have hm : n ≤ 1048576 := by rw [hn]; exact hs.1
  have HN := hid hn
  have HN2 := hid hn2
  have HD := hid hd
  have HS := hid hs.2
  have HG := hid hg
  have HG2 := hid hg2
  have hrd := rd_ws hr
  have hrd2 := rd_ws hr2
  clear hn hn2 hr hr2 hd hs hg hg2
  go_enter Try.func21, Try.ntmps21
  go_wp2
  go_loopw [5] (fun i wr => ∃ k : Nat, k ≤ n ∧ i = .int .i64 k ∧ Below w.heap.size w wr) (fun i _ => n - (intOf i).toNat)
  case atStart => exact ⟨0, Nat.zero_le _, rfl, Below.refl _ _⟩
  case round =>
    obtain ⟨k, hk, rfl, hB⟩ := hrel
    by_cases hlt : k < n
    · rcases hrd with hnil | ⟨b, o, rfl, hl1, hcell⟩
      · exact absurd (by rw [HN.out, hnil]; rfl : n = 0) (by omega)
      rcases hrd2 with hnil | ⟨b2, o2, rfl, hl2, hcell2⟩
      · exact absurd (by rw [HN2.out, hnil]; rfl : n = 0) (by omega)
      have hka : k < l.length := by rw [← HN.out]; exact hlt
      have hkb : k < M.length := by rw [← HN2.out]; exact hlt
      obtain ⟨h1, h2⟩ := (hcell k hka).below hB hl1
      obtain ⟨i1, i2⟩ := (hcell2 k hkb).below hB hl2
      have r1 := rd_below (HG.out _ (List.getElem_mem hka)).rd hB
      have r2 := rd_below (HG2.out _ (List.getElem_mem hkb)).rd hB
      have hnd := (HS.out _ (List.getElem_mem hka)).2
      obtain ⟨q1, q2⟩ := ws_at HD.out hka hkb
      rw [← q1] at i1
      rw [← q2] at i2 r2
      obtain ⟨x, hx⟩ : ∃ x, x = l[k] := ⟨_, rfl⟩
      obtain ⟨y, hy⟩ : ∃ y, y = M[k] := ⟨_, rfl⟩
      rw [← hx] at h1 h2 i1 i2 r1 r2 hnd
      rw [← hy] at i2 r2
      clear hx hy q1 q2 hcell hcell2 hka hkb
      obtain ⟨mx, hmx⟩ : ∃ m, m = x.fs.length := ⟨_, rfl⟩
      rw [← hmx] at h2 i2 hnd
      have HMX := hid hmx
      clear hmx
      have hk0 : (0 : Int) ≤ (k : Int) := by omega
      have hkn : (k : Int) < (n : Int) := by omega
      have z1 := Nat.lt_of_lt_of_le hl1 hB.size
      have z2 := Nat.lt_of_lt_of_le hl2 hB.size
      have R1 := hid r1
      have R2 := hid r2
      clear r1 r2
      go_wp2_with fail
      refine wp_region_over (by kernel_rfl) (by kernel_rfl) (fun hov => ?_)
      repeat (go_big_quiet_step (((go_at_call 26; exact overCall (eqWriter_any _ _ _ mx _ _ x.fs _ HMX.out hnd (rd_over R1.out) (rd_over R2.out))))))
      refine wpQuiet_nil ?_
      intro w5 hb5
      clear hov
      go_wp2
      go_roundw
      case rel => exact ⟨k + 1, by omega, by go_num, hB.trans (hb5.mono hB.size)⟩
      case measure => simp [intOf]; omega
    · obtain rfl : k = n := by omega
      go_wp2
      go_ret
      exact ⟨rfl, hB⟩
end Go.Proofs.Ythhpeanlpikjbaa
