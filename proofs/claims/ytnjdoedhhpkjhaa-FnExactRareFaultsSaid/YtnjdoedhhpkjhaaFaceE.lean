/-
  Walks: the kind of a letter of a machine; its code; and the laws' helpers over one machine.
-/
import Derived.Test.YtnjdoedhhpkjhaaFaceD
namespace Go.Proofs.Ytnjdoedhhpkjhaa
open Go.RowKit Go.ChangeShapes Go.WideShapes
set_option linter.unusedVariables false
attribute [local go_sem ↓] Go.wp_at_zero Go.wp_at_succ

def sameAt (l : List Se) (s : ByteArray) (k : Nat) : Bool := if h : k < l.length then l[k].1.toList == s.toList else false
def kindAt (l : List Se) (k : Nat) : Int := if h : k < l.length then l[k].2 else 0
theorem sameAt_get {l : List Se} {s : ByteArray} {k : Nat} (h : k < l.length) : sameAt l s k = (l[k].1.toList == s.toList) := by unfold sameAt; rw [dif_pos h]
theorem kindAt_get {l : List Se} {k : Nat} (h : k < l.length) : kindAt l k = l[k].2 := by unfold kindAt; rw [dif_pos h]
def kindI (l : List Se) (s : ByteArray) : Int := match firstAt (sameAt l s) l.length with | some k => kindAt l k | none => 0
theorem kind_hit {l : List Se} {s : ByteArray} {k : Nat} (h : k < l.length) (hN : NoneUpTo (sameAt l s) k) (he : sameAt l s k = true) : kindI l s = l[k].2 := by
  unfold kindI; rw [first_hit hN he h]; exact kindAt_get h
theorem kind_none {l : List Se} {s : ByteArray} (hN : NoneUpTo (sameAt l s) l.length) : kindI l s = 0 := by
  unfold kindI; rw [first_none hN]

set_option maxHeartbeats 4000000 in
theorem sOf_any (pb po : Nat) (x : ByteArray) (ao : Option Addr) (n cap : Nat) (l : List Se) (s : ByteArray) (w : World) (hw : WrAt w pb po x ao n cap) (hn : n = l.length) (hr : Rd w ao (ses l)) (hm : n ≤ 1048576) :
    Calls Try.prog 49 #[.pointer (some ⟨pb, po, none⟩), .string s] w fun e w' => e = .returned (.int .i64 (kindI l s)) ∧ w = w' := by
  have HN := hid hn
  have hrd := rd_se hr
  obtain ⟨hpl, p0, p1⟩ := hw
  clear hn hr
  go_enter Try.func49, Try.ntmps49
  go_wp2_with fail
  go_loop [5] (fun i => ∃ k : Nat, k ≤ n ∧ i = .int .i64 k ∧ NoneUpTo (sameAt l s) k) (fun i => n - (intOf i).toNat)
  case atStart => exact ⟨0, Nat.zero_le _, rfl, none_zero _⟩
  case round =>
    obtain ⟨k, hk, rfl, hN⟩ := hrel
    by_cases hlt : k < n
    · rcases hrd with hnil | ⟨b, o, rfl, hbl, hcell⟩
      · exact absurd (by rw [HN.out, hnil]; rfl : n = 0) (by omega)
      have hkl : k < l.length := by rw [← HN.out]; exact hlt
      obtain ⟨g1, g2⟩ := hcell k hkl
      clear hcell
      have hk0 : (0 : Int) ≤ (k : Int) := by omega
      have hkn : (k : Int) < (n : Int) := by omega
      have hsg := hid (sameAt_get (s := s) hkl)
      have hhit := hid (fun h => kind_hit hkl hN h)
      obtain ⟨z, hz⟩ : ∃ z, z = l[k] := ⟨_, rfl⟩
      rw [← hz] at g1 g2 hsg hhit
      clear hz
      cases he : (z.1.toList == s.toList)
      · go_wp2
        go_round
        case rel => exact ⟨k + 1, by omega, by go_num, none_next hN (by rw [hsg.out, he])⟩
        case measure => simp [intOf]; omega
      · go_wp2
        go_ret
        exact ⟨ret_int (hhit.out (by rw [hsg.out, he])).symm, rfl⟩
    · obtain rfl : k = n := by omega
      have ha := hid (kind_none (l := l) (s := s) (by rw [← HN.out]; exact hN))
      go_wp2
      go_ret
      exact ⟨ret_int ha.out.symm, rfl⟩


def kindR (x : ByteArray) (l : List Se) (s : ByteArray) : Int × Int := if oneB x l = true then (if letB s = true then (kindI l s, 0) else (0, 2)) else (0, 1)
theorem kindR_bad {x : ByteArray} {l : List Se} {s : ByteArray} (h : oneB x l = false) : kindR x l s = (0, 1) := by simp [kindR, h]
theorem kindR_let {x : ByteArray} {l : List Se} {s : ByteArray} (h : oneB x l = true) (h2 : letB s = false) : kindR x l s = (0, 2) := by simp [kindR, h, h2]
theorem kindR_ok {x : ByteArray} {l : List Se} {s : ByteArray} (h : oneB x l = true) (h2 : letB s = true) : kindR x l s = (kindI l s, 0) := by simp [kindR, h, h2]

theorem wrAt_new (w : World) (x : ByteArray) (ao : Option Addr) (n cap : Nat) (t : TypeId) : WrAt (w.alloc (.cells #[.string x, .slice ao n cap] t)) w.heap.size 0 x ao n cap :=
  ⟨by simp, by simp, by simp⟩
end Go.Proofs.Ytnjdoedhhpkjhaa
