/- slices.Sort at no string and at one: nothing is done. -/
import Derived.Test.YtamlhndibcafgaaGreatDoorNums
import Derived.LoopN
namespace Go.Proofs.YtamlhndibcafgaaGreatDoor
open Go.RowKit

theorem one_cases {n : Nat} (h : n ≤ 1) : n = 0 ∨ n = 1 := by omega
set_option maxRecDepth 100000 in
set_option maxHeartbeats 1000000 in
theorem insSort_one (a : Option Addr) (n c : Nat) (w : World) (h : n ≤ 1) :
    Calls Tryz.prog 225 #[.slice a n c, .int .i64 0, .int .i64 n] w fun e w' => e = .returned (.tuple #[]) ∧ w = w' := by
  rcases one_cases h with rfl | rfl
  all_goals
    go_enter Tryz.func225, Tryz.ntmps225
    go_wp2_with fail
    refine wp_loop_once ?_
    go_wp2_with fail
    go_end0
    exact ⟨rfl, rfl⟩
set_option maxRecDepth 100000 in
set_option maxHeartbeats 1000000 in
theorem pdq_one (a : Option Addr) (n c : Nat) (k : Int) (w : World) (h : n ≤ 1) :
    Calls Tryz.prog 178 #[.slice a n c, .int .i64 0, .int .i64 n, .int .i64 k] w fun e w' => e = .returned (.tuple #[]) ∧ w = w' := by
  go_enter Tryz.func178, Tryz.ntmps178
  go_wp2_with fail
  refine wp_loop_once ?_
  go_wp2_with (go_at_call 225; refine (insSort_one _ _ _ _ h).mono ?_; rintro e w' ⟨rfl, rfl⟩)
  refine bodyPost_ret (results_none rfl _ _ _) rfl ?_
  exact ⟨rfl, rfl⟩
set_option maxRecDepth 100000 in
set_option maxHeartbeats 1000000 in
theorem len64_small (n : Nat) (w : World) (h : n ≤ 1) :
    Calls Tryz.prog 179 #[.int .u64 n] w fun e w' => e = .returned (.int .i64 n) ∧ w = w' := by
  rcases one_cases h with rfl | rfl
  all_goals
    go_enter Tryz.func179, Tryz.ntmps179
    go_wp2
    go_ret
    exact ⟨rfl, rfl⟩
set_option maxRecDepth 100000 in
set_option maxHeartbeats 1000000 in
theorem slices_Sort_one (a : Option Addr) (n c : Nat) (w : World) (h : n ≤ 1) :
    Calls Tryz.prog 137 #[.slice a n c] w fun e w' => e = .returned (.tuple #[]) ∧ w = w' := by
  go_enter Tryz.func137, Tryz.ntmps137
  go_wp2_with fail
  refine (len64_small n _ h).mono ?_
  rintro e w' ⟨rfl, rfl⟩
  go_wp2_with fail
  refine (pdq_one _ _ _ _ _ h).mono ?_
  rintro e w' ⟨rfl, rfl⟩
  go_wp2_with fail
  go_end0
  exact ⟨rfl, rfl⟩
end Go.Proofs.YtamlhndibcafgaaGreatDoor
