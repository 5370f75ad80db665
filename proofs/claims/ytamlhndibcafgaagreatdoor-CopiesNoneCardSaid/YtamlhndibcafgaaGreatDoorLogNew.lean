/- Contracts of package tflog: Open, on an empty disk. -/
import Derived.Test.YtamlhndibcafgaaGreatDoorTflog3
namespace Go.Proofs.YtamlhndibcafgaaGreatDoor
open Go.RowKit Go.MapKept

set_option maxRecDepth 100000 in
set_option maxHeartbeats 1000000 in
theorem tflog_count_none (b : Nat) (D : Dk) (w : World) (h : DiskAt w b D) (he : D.files = []) :
    Calls Tryz.prog 150 #[.pointer (some ⟨b, 0, none⟩)] w fun e w' => e = .returned (.tuple #[.int .i64 0, .bool true]) ∧ Below w.heap.size w w' := by
  have HN := Lib.hid (disk_Names_none b D w h he)
  clear h he
  go_enter Tryz.func150, Tryz.ntmps150
  go_wp2_with fail
  refine HN.out.mono ?_
  rintro e w1 ⟨rfl, hb⟩
  go_wp2_with fail
  refine wp_loop_once ?_
  go_wp2_with fail
  go_ret2
  exact ⟨rfl, hb⟩
theorem find_empty {D : Dk} (h : D.files = []) (n : List UInt8) : D.find n = none := by unfold Dk.find; rw [h]; rfl
def newLg (bd starts : Nat) : Lg := { bd := bd, starts := starts, dead := false, sv := .slice none 0 0, sizes := [], sure := 0 }
set_option maxHeartbeats 1000000 in
theorem tflog_read_none (b : Nat) (w : World) :
    Calls Tryz.prog 152 #[.pointer (some ⟨b, 0, none⟩), .int .i64 0] w fun e w' => e = .returned (.int .i64 0) ∧ w = w' := by
  go_enter Tryz.func152, Tryz.ntmps152
  go_wp2_with fail
  refine wp_loop_once ?_
  go_wp2_with fail
  go_ret
  exact ⟨rfl, rfl⟩
def OpenedPost (bd : Nat) (D : Dk) (w : World) (e : Ending) (w' : World) : Prop :=
  ∃ b, e = .returned (.tuple #[.pointer (some ⟨b, 0, none⟩), .int .i64 0]) ∧ w.heap.size ≤ b ∧ LogOn w' b (newLg bd D.starts) D ∧ Below w.heap.size w w'
set_option maxRecDepth 100000 in
set_option maxHeartbeats 1000000 in
theorem tflog_Open_none (bd : Nat) (D : Dk) (w : World) (h : DiskAt w bd D) (hd : D.down = false) (he : D.files = []) :
    Calls Tryz.prog 113 #[.pointer (some ⟨bd, 0, none⟩)] w (OpenedPost bd D w) := by
  have hu := disk_Up bd D w h
  rw [hd] at hu
  have HU := Lib.hid hu
  have HS := Lib.hid (disk_Size_none bd D w [110, 101, 119] h hd (find_empty he _))
  have HC := Lib.hid (tflog_count_none bd D w h he)
  have HD := Lib.hid h
  have hst := h.small.2.2.2.1
  clear h hu he
  go_enter Tryz.func113, Tryz.ntmps113
  go_wp2_with fail
  refine HU.out.mono ?_
  rintro e w1 ⟨rfl, rfl⟩
  go_wp2_with fail
  refine HS.out.mono ?_
  rintro e w1 ⟨rfl, rfl⟩
  go_wp2_with fail
  refine HC.out.mono ?_
  rintro e w1 ⟨rfl, hb1⟩
  have HD1 := Lib.hid (HD.out.below hb1)
  go_wp2_with fail
  refine (disk_Starts bd D w1 HD1.out).mono ?_
  rintro e w2 ⟨rfl, rfl⟩
  go_wp2_with fail
  have hlog : LogOn (w1.alloc (.cells (newLg bd D.starts).cells 177)) w1.heap.size (newLg bd D.starts) D := by
    refine ⟨blk_new rfl _, World.ownsRow_nil _ _ _ _, HD1.out.below ((Below.refl _ _).alloc (Nat.le_refl _) _), ?_, ?_, ⟨by simp [newLg], hst, by simp [newLg]⟩, by simp [newLg]⟩
    · rintro k (rfl | hk) hk'
      · have := HD1.out.has_lt hk'; omega
      · cases hk
    · intro e; cases e
  have hk2 := hlog.blk
  have f4 : World.frozen? (w1.alloc (.cells (newLg bd D.starts).cells 177)) ⟨w1.heap.size, 4, none⟩ = false := frozen_of_block hk2
  have c4 := hlog.c4
  have HL := Lib.hid hlog
  have HE := Lib.hid (tflog_End w1.heap.size (newLg bd D.starts) D _ hlog)
  have hB2 : Below w.heap.size w (w1.alloc (.cells (newLg bd D.starts).cells 177)) := hb1.alloc (by have := hb1.size; omega) _
  have HB2 := Lib.hid hB2
  have hsz := hb1.size
  have hlt := blk_lt hk2
  clear hlog hk2 hB2
  refine (tflog_read_none w1.heap.size _).mono ?_
  rintro e w2 ⟨rfl, rfl⟩
  have HWW : Hid ((w1.alloc (.cells #[.pointer (some ⟨bd, 0, none⟩), .int .i64 D.starts, .bool false, .slice none 0 0, .int .i64 0] 177)) = w1.alloc (.cells (newLg bd D.starts).cells 177)) := Lib.hid rfl
  rw [HWW.out]
  generalize w1.alloc (.cells (newLg bd D.starts).cells 177) = w2 at *
  go_wp2_with fail
  refine HE.out.mono ?_
  rintro e w3 ⟨rfl, rfl⟩
  have HZ := Lib.hid (show endL (newLg bd D.starts).sizes = 0 from rfl)
  rw [HZ.out]
  have HW := Lib.hid (HL.out.setSure 0 (by omega))
  go_wp2_with fail
  go_ret2
  exact ⟨w1.heap.size, rfl, hsz, HW.out, HB2.out.setCell (p := ⟨w1.heap.size, 4, none⟩) hsz _⟩
end Go.Proofs.YtamlhndibcafgaaGreatDoor
