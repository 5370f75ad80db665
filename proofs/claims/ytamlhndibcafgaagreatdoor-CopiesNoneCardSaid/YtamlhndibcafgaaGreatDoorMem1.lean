/- Contracts of index.Last, store.Last over an empty memory. -/
import Derived.Test.YtamlhndibcafgaaGreatDoorMem0
namespace Go.Proofs.YtamlhndibcafgaaGreatDoor
open Go.RowKit Go.MapKept

theorem min_ver : min (1073741824 : Int) 1073741824 = 1073741824 := by decide
set_option maxRecDepth 100000 in
set_option maxHeartbeats 1000000 in
theorem index_Last_nil (b : Nat) (X : Ix) (h : Nat) (w : World) (hx : IxAt w b X) (h0 : X.ents = []) :
    Calls Tryz.prog 111 #[.pointer (some ⟨b, 0, none⟩), .int .u64 h, .int .i64 1073741824] w fun e w' => e = .returned (.tuple #[.int .i64 (-1), .int .i64 0]) ∧ Below w.heap.size w w' := by
  obtain ⟨a, cap, hmv⟩ := ownsRow_slice hx.row
  rw [h0] at hmv
  have c4 : w.cell? ⟨b, 4, none⟩ = some (.slice none 0 0) := by rw [cell_of_block hx.blk]; rfl
  have c6 : w.cell? ⟨b, 6, none⟩ = some (.pointer (some ⟨X.bm, 0, none⟩)) := by rw [cell_of_block hx.blk]; rfl
  have hm := hx.mem
  rw [hmv] at hm
  have HN := Lib.hid (index_none b X w hx)
  have HM := Lib.hid (memtable_Last_nil X.bm a cap h 1073741824 w hm)
  have hlt := blk_lt hx.blk
  have hmin := min_ver
  clear hx h0 hmv hm
  go_enter Tryz.func111, Tryz.ntmps111
  go_wp2_with fail
  refine HN.out.mono ?_
  rintro e w1 ⟨rfl, rfl⟩
  go_wp2_with fail
  refine HM.out.mono ?_
  rintro e w1 ⟨rfl, hb1⟩
  have hb2 := hb1.alloc hb1.size (.cells #[.int .u64 0, .int .i64 0, .int .i64 0] 142)
  have d4 := (hb2.cell (p := ⟨b, 4, none⟩) hlt).trans c4
  have HB2 := Lib.hid hb2
  clear hb1 hb2 c4 c6
  unfold noneE3
  go_wp2_with fail
  refine (levels_All_nil _).mono ?_
  rintro e w2 ⟨rfl, rfl⟩
  go_wp2_with fail
  refine wp_loop_once ?_
  go_wp2_with fail
  go_ret2
  exact ⟨rfl, HB2.out⟩
set_option maxRecDepth 100000 in
set_option maxHeartbeats 1000000 in
theorem store_Last_nil (b : Nat) (S : St) (n : List UInt8) (w : World) (h : StoreAt w b S) (h0 : S.X.ents = []) (hs : S.seed = 0) (hn : streamB n = true) (hl : n.length ≤ 1048576) :
    Calls Tryz.prog 76 #[.pointer (some ⟨b, 0, none⟩), .string ⟨n.toArray⟩] w fun e w' => e = .returned (.tuple #[.int .i64 (-1), .int .i64 0]) ∧ Below w.heap.size w w' := by
  have HN := Lib.hid (store_none b S w h)
  have hst := names_Stream n w (by unfold maxLen; omega)
  rw [hn] at hst
  have HS := Lib.hid hst
  have HX := Lib.hid (index_Last_nil S.bx S.X 7 w h.ix h0)
  have hk := h.blk
  rw [hs] at hk
  have p_c0 : World.cell? w ⟨b, 0, none⟩ = some (.pointer (some ⟨S.bl, 0, none⟩)) := by rw [cell_of_block hk]; rfl
  have p_f0 : World.frozen? w ⟨b, 0, none⟩ = false := frozen_of_block hk
  have p_c1 : World.cell? w ⟨b, 1, none⟩ = some (.pointer (some ⟨S.bx, 0, none⟩)) := by rw [cell_of_block hk]; rfl
  have p_f1 : World.frozen? w ⟨b, 1, none⟩ = false := frozen_of_block hk
  have p_c2 : World.cell? w ⟨b, 2, none⟩ = some (.int .u64 0) := by rw [cell_of_block hk]; rfl
  have p_f2 : World.frozen? w ⟨b, 2, none⟩ = false := frozen_of_block hk
  clear h h0 hs hn hst hk p_f0 p_f1 p_f2
  go_enter Tryz.func76, Tryz.ntmps76
  go_wp2_with fail
  refine HN.out.mono ?_
  rintro e w1 ⟨rfl, rfl⟩
  go_wp2_with fail
  refine HS.out.mono ?_
  rintro e w1 ⟨rfl, rfl⟩
  go_wp2_with fail
  refine (hashes_Hash0 n w).mono ?_
  rintro e w1 ⟨rfl, rfl⟩
  go_wp2_with fail
  refine wp_loop_once ?_
  go_wp2_with fail
  refine HX.out.mono ?_
  rintro e w1 ⟨rfl, hb1⟩
  go_wp2_with fail
  go_ret2
  exact ⟨rfl, hb1⟩
end Go.Proofs.YtamlhndibcafgaaGreatDoor
