/- Contracts over a manifest without tables: slices.Concat, levels, manifests, index.copied. -/
import Derived.Test.YtamlhndibcafgaaGreatDoorLogNew
namespace Go.Proofs.YtamlhndibcafgaaGreatDoor
open Go.RowKit Go.MapKept

set_option maxHeartbeats 400000 in
theorem slices_Grow_nil (w : World) :
    Calls Tryz.prog 255 #[.slice none 0 0, .int .i64 0] w fun e w' => e = .returned (.slice none 0 0) ∧ w = w' := by
  go_enter Tryz.func255, Tryz.ntmps255
  go_wp2_with fail
  go_ret
  exact ⟨rfl, rfl⟩
set_option maxHeartbeats 400000 in
theorem slices_Concat_nil (w : World) :
    Calls Tryz.prog 204 #[.slice none 0 0] w fun e w' => e = .returned (.slice none 0 0) ∧ w = w' := by
  go_enter Tryz.func204, Tryz.ntmps204
  go_wp2_with fail
  refine wp_loop_once ?_
  go_wp2_with fail
  refine (slices_Grow_nil _).mono ?_
  rintro e w' ⟨rfl, rfl⟩
  go_wp2_with fail
  refine wp_loop_once ?_
  go_wp2_with fail
  go_ret
  exact ⟨rfl, rfl⟩
theorem levels_All_nil (w : World) :
    Calls Tryz.prog 146 #[.slice none 0 0] w fun e w' => e = .returned (.slice none 0 0) ∧ w = w' := by
  go_enter Tryz.func146, Tryz.ntmps146
  go_wp2_with fail
  refine (slices_Concat_nil _).mono ?_
  rintro e w' ⟨rfl, rfl⟩
  go_wp2_with fail
  go_ret
  exact ⟨rfl, rfl⟩
set_option maxHeartbeats 400000 in
theorem levels_Valid_nil (w : World) :
    Calls Tryz.prog 236 #[.slice none 0 0] w fun e w' => e = .returned (.bool true) ∧ Below w.heap.size w w' := by
  have hmm := @run_makeMap Tryz.prog
  go_enter Tryz.func236, Tryz.ntmps236
  go_wp2_with fail
  refine (levels_All_nil _).mono ?_
  rintro e w' ⟨rfl, rfl⟩
  go_wp2_with fail
  refine wp_loop_once ?_
  go_wp2_with fail
  go_ret
  exact ⟨rfl, (Below.refl _ _).alloc (Nat.le_refl _) _⟩
set_option maxHeartbeats 400000 in
theorem slices_IndexFunc_nil (w : World) (f : Value) :
    Calls Tryz.prog 303 #[.slice none 0 0, f] w fun e w' => e = .returned (.int .i64 (-1)) ∧ w = w' := by
  go_enter Tryz.func303, Tryz.ntmps303
  go_wp2_with fail
  refine wp_loop_once ?_
  go_wp2_with fail
  go_ret
  exact ⟨rfl, rfl⟩
theorem slices_ContainsFunc_nil (w : World) (f : Value) :
    Calls Tryz.prog 263 #[.slice none 0 0, f] w fun e w' => e = .returned (.bool false) ∧ w = w' := by
  go_enter Tryz.func263, Tryz.ntmps263
  go_wp2_with fail
  refine (slices_IndexFunc_nil _ f).mono ?_
  rintro e w' ⟨rfl, rfl⟩
  go_wp2_with fail
  go_ret
  exact ⟨rfl, rfl⟩
/-- A manifest without tables. -/
def Mf (seed : Nat) : Array Value := #[.int .i64 0, .int .i64 0, .int .u64 seed, .slice none 0 0]
set_option maxRecDepth 100000 in
set_option maxHeartbeats 1000000 in
theorem manifests_Valid_nil (w : World) (seed : Nat) :
    Calls Tryz.prog 216 #[.agg (Mf seed)] w fun e w' => e = .returned (.bool true) ∧ Below w.heap.size w w' := by
  unfold Mf
  have hk := blk_new (w := w) rfl (.cells (Mf seed) 184)
  unfold Mf at hk
  have p_c0 : World.cell? (w.alloc (.cells #[.int .i64 0, .int .i64 0, .int .u64 seed, .slice none 0 0] 184)) ⟨w.heap.size, 0, none⟩ = some (.int .i64 0) := by rw [cell_of_block hk]; rfl
  have p_f0 : World.frozen? (w.alloc (.cells #[.int .i64 0, .int .i64 0, .int .u64 seed, .slice none 0 0] 184)) ⟨w.heap.size, 0, none⟩ = false := frozen_of_block hk
  have p_c1 : World.cell? (w.alloc (.cells #[.int .i64 0, .int .i64 0, .int .u64 seed, .slice none 0 0] 184)) ⟨w.heap.size, 1, none⟩ = some (.int .i64 0) := by rw [cell_of_block hk]; rfl
  have p_f1 : World.frozen? (w.alloc (.cells #[.int .i64 0, .int .i64 0, .int .u64 seed, .slice none 0 0] 184)) ⟨w.heap.size, 1, none⟩ = false := frozen_of_block hk
  have p_c2 : World.cell? (w.alloc (.cells #[.int .i64 0, .int .i64 0, .int .u64 seed, .slice none 0 0] 184)) ⟨w.heap.size, 2, none⟩ = some (.int .u64 seed) := by rw [cell_of_block hk]; rfl
  have p_f2 : World.frozen? (w.alloc (.cells #[.int .i64 0, .int .i64 0, .int .u64 seed, .slice none 0 0] 184)) ⟨w.heap.size, 2, none⟩ = false := frozen_of_block hk
  have p_c3 : World.cell? (w.alloc (.cells #[.int .i64 0, .int .i64 0, .int .u64 seed, .slice none 0 0] 184)) ⟨w.heap.size, 3, none⟩ = some (.slice none 0 0) := by rw [cell_of_block hk]; rfl
  have p_f3 : World.frozen? (w.alloc (.cells #[.int .i64 0, .int .i64 0, .int .u64 seed, .slice none 0 0] 184)) ⟨w.heap.size, 3, none⟩ = false := frozen_of_block hk
  have hB := (Below.refl w.heap.size w).alloc (Nat.le_refl _) (.cells #[.int .i64 0, .int .i64 0, .int .u64 seed, .slice none 0 0] 184)
  clear hk p_f0 p_f1 p_f2 p_f3
  go_enter Tryz.func216, Tryz.ntmps216
  go_wp2_with fail
  refine (levels_Valid_nil _).mono ?_
  rintro e w1 ⟨rfl, hb1⟩
  have c3 := (hb1.cell (p := ⟨w.heap.size, 3, none⟩) (by simp)).trans p_c3
  have hB1 := hB.trans (hb1.mono (by simp))
  clear hb1
  go_wp2_with fail
  refine (levels_All_nil _).mono ?_
  rintro e w2 ⟨rfl, rfl⟩
  go_wp2_with fail
  refine (slices_ContainsFunc_nil _ _).mono ?_
  rintro e w2 ⟨rfl, rfl⟩
  go_wp2_with fail
  go_ret
  exact ⟨rfl, hB1⟩
end Go.Proofs.YtamlhndibcafgaaGreatDoor
