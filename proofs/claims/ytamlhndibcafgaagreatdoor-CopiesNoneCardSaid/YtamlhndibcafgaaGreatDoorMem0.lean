/- Contracts of entries, memtable, index over an empty memory; hashes of the seed 0. -/
import Derived.Test.YtamlhndibcafgaaGreatDoorStore0
namespace Go.Proofs.YtamlhndibcafgaaGreatDoor
open Go.RowKit Go.MapKept

theorem hashes_Hash0 (s : List UInt8) (w : World) :
    Calls Tryz.prog 83 #[.int .u64 0, .string ⟨s.toArray⟩] w fun e w' => e = .returned (.int .u64 7) ∧ w = w' := by
  go_enter Tryz.func83, Tryz.ntmps83
  go_wp2_with fail
  go_ret
  exact ⟨rfl, rfl⟩
set_option maxHeartbeats 400000 in
theorem entries_Search_nil (a : Option Addr) (cap h v : Nat) (w : World) :
    Calls Tryz.prog 168 #[.slice a 0 cap, .int .u64 h, .int .i64 v] w fun e w' => e = .returned (.int .i64 0) ∧ w = w' := by
  go_enter Tryz.func168, Tryz.ntmps168
  go_wp2_with fail
  go_step3
  go_wp2_with fail
  go_step3
  go_wp2_with fail
  refine wp_loop_once ?_
  go_wp2_with fail
  rw [Exit.noGoto_ret]
  go_ret
  exact ⟨rfl, rfl⟩
def noneE3 : Value := .agg #[.int .u64 0, .int .i64 0, .int .i64 0]
set_option maxRecDepth 100000 in
set_option maxHeartbeats 1000000 in
theorem entries_Last_nil (a : Option Addr) (cap h v : Nat) (w : World) :
    Calls Tryz.prog 203 #[.slice a 0 cap, .int .u64 h, .int .i64 v] w fun e w' => e = .returned (.tuple #[noneE3, .bool false]) ∧ Below w.heap.size w w' := by
  go_enter Tryz.func203, Tryz.ntmps203
  go_wp2_with fail
  refine (entries_Search_nil a cap h v _).mono ?_
  rintro e w1 ⟨rfl, rfl⟩
  go_wp2_with fail
  refine wp_loop_once ?_
  go_wp2_with fail
  exact bodyPost_ret (v := .tuple #[noneE3, .bool false]) (by simp [results, Tryz.f203, go_sem, noneE3]) rfl ⟨rfl, (Below.refl w.heap.size w).alloc (Nat.le_refl _) _⟩
set_option maxHeartbeats 400000 in
theorem memtable_none (b : Nat) (v : Value) (w : World) (h : w.heap[b]? = some (.cells #[.bool true, v] 232)) :
    Calls Tryz.prog 167 #[.pointer (some ⟨b, 0, none⟩)] w fun e w' => e = .returned (.bool false) ∧ w = w' := by
  have c0 : w.cell? ⟨b, 0, none⟩ = some (.bool true) := by rw [cell_of_block h]; rfl
  clear h
  go_enter Tryz.func167, Tryz.ntmps167
  go_wp2_with fail
  go_ret
  exact ⟨rfl, rfl⟩
set_option maxRecDepth 100000 in
set_option maxHeartbeats 1000000 in
theorem memtable_Last_nil (b : Nat) (a : Option Addr) (cap h v : Nat) (w : World) (hb : w.heap[b]? = some (.cells #[.bool true, .slice a 0 cap] 232)) :
    Calls Tryz.prog 145 #[.pointer (some ⟨b, 0, none⟩), .int .u64 h, .int .i64 v] w fun e w' => e = .returned (.tuple #[noneE3, .bool false]) ∧ Below w.heap.size w w' := by
  have hB := (Below.refl w.heap.size w).alloc (Nat.le_refl _) (.cells #[.int .u64 0, .int .i64 0, .int .i64 0] 142)
  have hb' := blk_alloc (o' := .cells #[.int .u64 0, .int .i64 0, .int .i64 0] 142) hb
  have hk := blk_new (w := w) rfl (.cells #[.int .u64 0, .int .i64 0, .int .i64 0] 142)
  obtain ⟨W, hW⟩ : ∃ W, w.alloc (.cells #[.int .u64 0, .int .i64 0, .int .i64 0] 142) = W := ⟨_, rfl⟩
  rw [hW] at hB hb' hk
  have HW := Lib.hid hW
  have HB := Lib.hid hB
  have HK := Lib.hid hk
  have HN := Lib.hid (memtable_none b _ W hb')
  have hsz : W.heap.size = w.heap.size + 1 := by rw [← hW]; simp
  have HSZ := Lib.hid hsz
  have c1 : W.cell? ⟨b, 1, none⟩ = some (.slice a 0 cap) := by rw [cell_of_block hb']; rfl
  clear hB hk hb hb' hW hsz
  go_enter Tryz.func145, Tryz.ntmps145
  go_wp2_with fail
  rw [HW.out]
  refine HN.out.mono ?_
  rintro e w1 ⟨rfl, rfl⟩
  go_wp2_with fail
  refine (entries_Last_nil a cap h v W).mono ?_
  rintro e w1 ⟨rfl, hb1⟩
  have hk1 := blk_kept hb1 HK.out
  have q_c0 : World.cell? w1 ⟨w.heap.size, 0, none⟩ = some (.int .u64 0) := by rw [cell_of_block hk1]; rfl
  have q_f0 : World.frozen? w1 ⟨w.heap.size, 0, none⟩ = false := frozen_of_block hk1
  have q_c1 : World.cell? w1 ⟨w.heap.size, 1, none⟩ = some (.int .i64 0) := by rw [cell_of_block hk1]; rfl
  have q_f1 : World.frozen? w1 ⟨w.heap.size, 1, none⟩ = false := frozen_of_block hk1
  have q_c2 : World.cell? w1 ⟨w.heap.size, 2, none⟩ = some (.int .i64 0) := by rw [cell_of_block hk1]; rfl
  have q_f2 : World.frozen? w1 ⟨w.heap.size, 2, none⟩ = false := frozen_of_block hk1
  have HK1 := Lib.hid hk1
  have HB1 := Lib.hid (HB.out.trans (hb1.mono HB.out.size))
  clear hb1 hk1
  unfold noneE3
  go_wp2_with fail
  obtain ⟨W2, hW2⟩ : ∃ W2, (((w1.setCell ⟨w.heap.size, 0, none⟩ (.int .u64 0)).setCell ⟨w.heap.size, 1, none⟩ (.int .i64 0)).setCell ⟨w.heap.size, 2, none⟩ (.int .i64 0)) = W2 := ⟨_, rfl⟩
  have hk3 : W2.heap[w.heap.size]? = some (.cells #[.int .u64 0, .int .i64 0, .int .i64 0] 142) := by
    rw [← hW2]; exact block_setCell (block_setCell (block_setCell HK1.out (.int .u64 0)) (.int .i64 0)) (.int .i64 0)
  have hB2 : Below w.heap.size w W2 := by
    rw [← hW2]
    exact ((HB1.out.setCell (p := ⟨w.heap.size, 0, none⟩) (Nat.le_refl _) _).setCell (p := ⟨w.heap.size, 1, none⟩) (Nat.le_refl _) _).setCell (p := ⟨w.heap.size, 2, none⟩) (Nat.le_refl _) _
  have r_c0 : World.cell? W2 ⟨w.heap.size, 0, none⟩ = some (.int .u64 0) := by rw [cell_of_block hk3]; rfl
  have r_f0 : World.frozen? W2 ⟨w.heap.size, 0, none⟩ = false := frozen_of_block hk3
  have r_c1 : World.cell? W2 ⟨w.heap.size, 1, none⟩ = some (.int .i64 0) := by rw [cell_of_block hk3]; rfl
  have r_f1 : World.frozen? W2 ⟨w.heap.size, 1, none⟩ = false := frozen_of_block hk3
  have r_c2 : World.cell? W2 ⟨w.heap.size, 2, none⟩ = some (.int .i64 0) := by rw [cell_of_block hk3]; rfl
  have r_f2 : World.frozen? W2 ⟨w.heap.size, 2, none⟩ = false := frozen_of_block hk3
  rw [hW2]
  exact bodyPost_ret (v := .tuple #[noneE3, .bool false]) (by simp [results, Tryz.f145, go_sem, r_c0, r_c1, r_c2, noneE3]) rfl ⟨rfl, hB2⟩
end Go.Proofs.YtamlhndibcafgaaGreatDoor
