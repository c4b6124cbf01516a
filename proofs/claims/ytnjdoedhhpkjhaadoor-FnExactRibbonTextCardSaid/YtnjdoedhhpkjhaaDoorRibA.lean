/-
  Walks of the ribbon functions: what each one returns, and that it writes nothing that was there.
-/
import Derived.Test.YtnjdoedhhpkjhaaDoorMem
import Derived.Test.YtnjdoedhhpkjhaaDoorRibMath
import Derived.WalkKit
import Derived.WalkSpells
import Derived.ProofKit
import Derived.Deep.QuietTactic
import Derived.BigQuiet
namespace Go.Proofs.YtnjdoedhhpkjhaaDoor
open Go.RowKit

theorem boxlt {w : World} {o : Obj} {W1 : World} (h : Below (w.heap.size + 1) (w.alloc o) W1) : w.heap.size < W1.heap.size := by
  have := h.size; simp at this; omega
theorem boxCells {w : World} {s i t : Int} {T : TypeId} {W1 : World} (h : Below (w.heap.size + 1) (w.alloc (.cells #[.int .i64 s, .int .i64 i, .int .i64 t] T)) W1) :
    W1.cell? ⟨w.heap.size, 0, none⟩ = some (.int .i64 s) ∧ W1.cell? ⟨w.heap.size, 1, none⟩ = some (.int .i64 i) ∧ W1.cell? ⟨w.heap.size, 2, none⟩ = some (.int .i64 t) ∧ w.heap.size < W1.heap.size :=
  ⟨(h.cell (p := ⟨w.heap.size, 0, none⟩) (by simp)).trans (by go_simp), (h.cell (p := ⟨w.heap.size, 1, none⟩) (by simp)).trans (by go_simp), (h.cell (p := ⟨w.heap.size, 2, none⟩) (by simp)).trans (by go_simp), boxlt h⟩
theorem boxBelow {w : World} {o : Obj} {W1 w' : World} (h : Below (w.heap.size + 1) (w.alloc o) W1) (hb : Below W1.heap.size W1 w') : Below (w.heap.size + 1) (w.alloc o) w' :=
  h.trans (hb.mono (by have := h.size; simp at this; omega))
theorem boxOut {w : World} {o : Obj} {W1 : World} (h : Below (w.heap.size + 1) (w.alloc o) W1) : Below w.heap.size w W1 :=
  ((Below.refl _ _).alloc (Nat.le_refl _) o).trans (h.mono (by omega))
/-- a ribbon's box: what a region that draws its order keeps of it -/
theorem ribKeep0 (w : World) (s i t : Int) (T : TypeId) : Below (w.heap.size + 1) (w.alloc (.cells #[.int .i64 s, .int .i64 i, .int .i64 t] T)) (w.alloc (.cells #[.int .i64 s, .int .i64 i, .int .i64 t] T)).drew ∧ (w.alloc (.cells #[.int .i64 s, .int .i64 i, .int .i64 t] T)).drew.cell? ⟨w.heap.size, 0, none⟩ = some (.int .i64 s) ∧ (w.alloc (.cells #[.int .i64 s, .int .i64 i, .int .i64 t] T)).drew.cell? ⟨w.heap.size, 1, none⟩ = some (.int .i64 i) ∧ (w.alloc (.cells #[.int .i64 s, .int .i64 i, .int .i64 t] T)).drew.cell? ⟨w.heap.size, 2, none⟩ = some (.int .i64 t) := by
  refine ⟨(Below.refl _ _).drew, ?_, ?_, ?_⟩ <;> go_simp
theorem ribKeep {w W1 w' : World} {s i t : Int} {T : TypeId}
    (h : Below (w.heap.size + 1) (w.alloc (.cells #[.int .i64 s, .int .i64 i, .int .i64 t] T)) W1 ∧ W1.cell? ⟨w.heap.size, 0, none⟩ = some (.int .i64 s) ∧ W1.cell? ⟨w.heap.size, 1, none⟩ = some (.int .i64 i) ∧ W1.cell? ⟨w.heap.size, 2, none⟩ = some (.int .i64 t))
    (hb : Below W1.heap.size W1 w') : Below (w.heap.size + 1) (w.alloc (.cells #[.int .i64 s, .int .i64 i, .int .i64 t] T)) w' ∧ w'.cell? ⟨w.heap.size, 0, none⟩ = some (.int .i64 s) ∧ w'.cell? ⟨w.heap.size, 1, none⟩ = some (.int .i64 i) ∧ w'.cell? ⟨w.heap.size, 2, none⟩ = some (.int .i64 t) := by
  have hz : w.heap.size < W1.heap.size := by have := h.1.size; simp at this; omega
  exact ⟨h.1.trans (hb.mono (by omega)), (hb.cell (p := ⟨w.heap.size, 0, none⟩) hz).trans h.2.1, (hb.cell (p := ⟨w.heap.size, 1, none⟩) hz).trans h.2.2.1, (hb.cell (p := ⟨w.heap.size, 2, none⟩) hz).trans h.2.2.2⟩

theorem ribKeepD {w w' : World} {s i t : Int} {T : TypeId}
    (hb : Below (w.alloc (.cells #[.int .i64 s, .int .i64 i, .int .i64 t] T)).heap.size (w.alloc (.cells #[.int .i64 s, .int .i64 i, .int .i64 t] T)) w') : Below (w.heap.size + 1) (w.alloc (.cells #[.int .i64 s, .int .i64 i, .int .i64 t] T)) w'.drew ∧ w'.drew.cell? ⟨w.heap.size, 0, none⟩ = some (.int .i64 s) ∧ w'.drew.cell? ⟨w.heap.size, 1, none⟩ = some (.int .i64 i) ∧ w'.drew.cell? ⟨w.heap.size, 2, none⟩ = some (.int .i64 t) := by
  have h : Below (w.heap.size + 1) (w.alloc (.cells #[.int .i64 s, .int .i64 i, .int .i64 t] T)) w'.drew := (hb.mono (by simp)).drew
  exact ⟨h, (boxCells h).1, (boxCells h).2.1, (boxCells h).2.2.1⟩

theorem in_any (n lo hi : Int) (w : World) : Calls Tryd.prog 11 #[.int .i64 n, .int .i64 lo, .int .i64 hi] w fun e w' => e = .returned (.bool (inB n lo hi)) ∧ w = w' := by
  by_cases h1 : lo ≤ n <;> by_cases h2 : n ≤ hi
  all_goals
    go_enter Tryd.func11, Tryd.ntmps11
    go_wp2
    go_ret
    exact ⟨by simp [inB, h1, h2], rfl⟩
theorem between_any (n lo hi : Int) (w : World) : Calls Tryd.prog 12 #[.int .i64 n, .int .i64 lo, .int .i64 hi] w fun e w' => e = .returned (.bool (inB n lo hi)) ∧ w = w' := by
  by_cases h1 : lo ≤ n <;> by_cases h2 : n ≤ hi
  all_goals
    go_enter Tryd.func12, Tryd.ntmps12
    go_wp2
    go_ret
    exact ⟨by simp [inB, h1, h2], rfl⟩

theorem toRibbon_any (s i t : Int) (w : World) : Calls Tryd.prog 5 #[.agg #[.int .i64 s, .int .i64 i, .int .i64 t]] w fun e w' => e = .returned (.agg #[.int .i64 s, .int .i64 i, .int .i64 t]) ∧ Below w.heap.size w w' := by
  go_enter Tryd.func5, Tryd.ntmps5
  go_wp2
  refine bodyPost_ret (v := .agg #[.int .i64 s, .int .i64 i, .int .i64 t]) (by simp [results, Tryd.results5, go_sem]) rfl ⟨rfl, ?_⟩
  (repeat (first | with_reducible exact Below.refl _ _ | with_reducible assumption | refine Below.drew ?_ | refine below_drewN ?_ _ | (refine Below.alloc ?_ (by first | omega | (simp; done) | (simp; omega)) _) | (refine Below.setCell ?_ (by first | omega | (simp; done) | (simp; omega)) _) | (refine Below.trans ?_ (Below.mono (by assumption) (by first | omega | (simp; done) | (simp; omega))))))

theorem l14Ok_any (s i t : Int) (w : World) : Calls Tryd.prog 7 #[.agg #[.int .i64 s, .int .i64 i, .int .i64 t]] w fun e w' => e = .returned (.bool (okB s i t)) ∧ Below w.heap.size w w' := by
  cases h1 : inB s 2 200 <;> cases h2 : inB i 1 1000 <;> cases h3 : inB t 1 i
  all_goals
    go_enter Tryd.func7, Tryd.ntmps7
    go_wp2_with (go_at_call 11; refine (in_any _ _ _ _).mono ?_; rintro e w' ⟨rfl, rfl⟩)
    go_ret
    refine ⟨by simp [okB, h1, h2, h3], ?_⟩
    (repeat (first | with_reducible exact Below.refl _ _ | with_reducible assumption | refine Below.drew ?_ | refine below_drewN ?_ _ | (refine Below.alloc ?_ (by first | omega | (simp; done) | (simp; omega)) _) | (refine Below.setCell ?_ (by first | omega | (simp; done) | (simp; omega)) _) | (refine Below.trans ?_ (Below.mono (by assumption) (by first | omega | (simp; done) | (simp; omega))))))
theorem valid_any (s i t : Int) (w : World) : Calls Tryd.prog 9 #[.agg #[.int .i64 s, .int .i64 i, .int .i64 t]] w fun e w' => e = .returned (.bool (okB s i t)) ∧ Below w.heap.size w w' := by
  cases h1 : inB s 2 200 <;> cases h2 : inB i 1 1000 <;> cases h3 : inB t 1 i
  all_goals
    go_enter Tryd.func9, Tryd.ntmps9
    go_wp2_with (go_at_call 12; refine (between_any _ _ _ _).mono ?_; rintro e w' ⟨rfl, rfl⟩)
    go_ret
    refine ⟨by simp [okB, h1, h2, h3], ?_⟩
    (repeat (first | with_reducible exact Below.refl _ _ | with_reducible assumption | refine Below.drew ?_ | refine below_drewN ?_ _ | (refine Below.alloc ?_ (by first | omega | (simp; done) | (simp; omega)) _) | (refine Below.setCell ?_ (by first | omega | (simp; done) | (simp; omega)) _) | (refine Below.trans ?_ (Below.mono (by assumption) (by first | omega | (simp; done) | (simp; omega))))))
end Go.Proofs.YtnjdoedhhpkjhaaDoor
