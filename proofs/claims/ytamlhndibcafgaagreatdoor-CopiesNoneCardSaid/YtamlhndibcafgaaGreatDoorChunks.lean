/- Contracts of the package chunks: Head, Fits. -/
import Derived.Test.YtamlhndibcafgaaGreatDoorRecs
namespace Go.Proofs.YtamlhndibcafgaaGreatDoor
open Go.RowKit

set_option maxHeartbeats 400000 in
theorem chunks_Head (n : Nat) (w : World) (hn : n < 200) :
    Calls Tryz.prog 166 #[.int .i64 n] w fun e w' => e = .returned (.string ⟨(headL n).toArray⟩) ∧ Below w.heap.size w w' := by
  go_enter Tryz.func166, Tryz.ntmps166
  go_wp2_with fail
  refine (nums_Put _ 4 _ (by omega) (by omega)).mono ?_
  rintro e w1 ⟨rfl, hb1⟩
  go_wp2_with fail
  refine (sums_Seal _ _ (by simp)).mono ?_
  rintro e w2 ⟨rfl, hb2⟩
  go_wp2_with fail
  go_ret
  exact ⟨rfl, hb1.trans (hb2.mono hb1.size)⟩

def fitsB (size : Nat) (p : List UInt8) : Bool := decide (size ≤ 4096 ∧ p.length ≤ 2000 ∧ p.length + 12 ≤ 4096 - size)
set_option maxHeartbeats 400000 in
theorem chunks_Fits (size : Nat) (p : List UInt8) (w : World) (hs : size ≤ 140737488355328) (hp : p.length ≤ 140737488355328) :
    Calls Tryz.prog 117 #[.int .i64 size, .string ⟨p.toArray⟩] w fun e w' => e = .returned (.bool (fitsB size p)) ∧ w = w' := by
  rcases (by omega : 4096 < size ∨ (size ≤ 4096 ∧ 2000 < p.length) ∨ (size ≤ 4096 ∧ p.length ≤ 2000 ∧ 4096 - size < p.length + 12) ∨ (size ≤ 4096 ∧ p.length ≤ 2000 ∧ p.length + 12 ≤ 4096 - size)) with h | ⟨h, h2⟩ | ⟨h, h2, h3⟩ | ⟨h, h2, h3⟩
  all_goals
    go_enter Tryz.func117, Tryz.ntmps117
    go_wp2_with fail
    go_ret
    refine ⟨ret_bool ?_, rfl⟩
    unfold fitsB
    first
      | exact (decide_eq_false (by omega)).symm
      | exact decide_eq_decide.2 (by omega)
end Go.Proofs.YtamlhndibcafgaaGreatDoor
