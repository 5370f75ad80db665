/- Contracts of packages index, indexmap over a manifest without tables. -/
import Derived.Test.YtamlhndibcafgaaGreatDoorIdx0
namespace Go.Proofs.YtamlhndibcafgaaGreatDoor
open Go.RowKit Go.MapKept

set_option maxRecDepth 100000 in
set_option maxHeartbeats 1000000 in
theorem index_copied_nil (w : World) (seed : Nat) :
    Calls Tryz.prog 181 #[.agg (Mf seed)] w fun e w' => e = .returned (.agg (Mf seed)) ∧ Below w.heap.size w w' := by
  unfold Mf
  go_enter Tryz.func181, Tryz.ntmps181
  go_wp2_with fail
  refine wp_loop_once ?_
  go_wp2_with fail
  exact bodyPost_ret (v := .agg (Mf seed)) (by simp [results, Tryz.f181, go_sem, Mf]) rfl ⟨rfl, ((Below.refl w.heap.size w).alloc (Nat.le_refl _) _).alloc (by simp) _⟩
def noneM : Value := .agg #[.int .i64 0, .int .i64 0, .int .u64 0, .slice none 0 0]
set_option maxRecDepth 100000 in
set_option maxHeartbeats 1000000 in
theorem indexmap_Load_none (b : Nat) (D : Dk) (w : World) (h : DiskAt w b D) (hd : D.down = false) (hf : D.find [109, 97, 112] = none) :
    Calls Tryz.prog 215 #[.pointer (some ⟨b, 0, none⟩)] w fun e w' => e = .returned (.tuple #[noneM, .int .i64 4]) ∧ Below w.heap.size w w' := by
  have hB := (Below.refl w.heap.size w).alloc (Nat.le_refl _) (.cells #[.int .i64 0, .int .i64 0, .int .u64 0, .slice none 0 0] 184)
  have HS := Lib.hid (disk_Size_none b D _ [109, 97, 112] (h.below hB) hd hf)
  have HB := Lib.hid hB
  clear h hd hf hB
  go_enter Tryz.func215, Tryz.ntmps215
  go_wp2_with fail
  refine HS.out.mono ?_
  rintro e w1 ⟨rfl, rfl⟩
  go_wp2_with fail
  exact bodyPost_ret (v := .tuple #[noneM, .int .i64 4]) (by simp [results, Tryz.f215, go_sem, noneM]) rfl ⟨rfl, HB.out⟩
/-- No file has no name. -/
def Dk.named (D : Dk) : Prop := D.find [] = none
set_option maxHeartbeats 1000000 in
theorem indexmap_over (b : Nat) (D : Dk) (w : World) (h : DiskAt w b D) (hd : D.down = false) (hn : D.named) :
    Calls Tryz.prog 219 #[.pointer (some ⟨b, 0, none⟩)] w fun e w' => e = .returned (.int .i64 0) ∧ w = w' := by
  have HS := Lib.hid (disk_Size_none b D w [] h hd hn)
  clear h hd hn
  go_enter Tryz.func219, Tryz.ntmps219
  go_wp2_with fail
  refine HS.out.mono ?_
  rintro e w1 ⟨rfl, rfl⟩
  go_wp2_with fail
  go_ret
  exact ⟨rfl, rfl⟩
set_option maxRecDepth 100000 in
set_option maxHeartbeats 1000000 in
theorem indexmap_Orphans_none (b : Nat) (D : Dk) (w : World) (seed : Nat) (h : DiskAt w b D) (he : D.files = []) :
    Calls Tryz.prog 220 #[.pointer (some ⟨b, 0, none⟩), .agg (Mf seed)] w fun e w' => e = .returned (.slice none 0 0) ∧ Below w.heap.size w w' := by
  unfold Mf
  have hB := (Below.refl w.heap.size w).alloc (Nat.le_refl _) (.cells #[.int .i64 0, .int .i64 0, .int .u64 seed, .slice none 0 0] 184)
  have HN := Lib.hid (disk_Names_none b D _ (h.below hB) he)
  have HB := Lib.hid hB
  clear h he hB
  go_enter Tryz.func220, Tryz.ntmps220
  go_wp2_with fail
  refine (levels_All_nil _).mono ?_
  rintro e w1 ⟨rfl, rfl⟩
  go_wp2_with fail
  refine HN.out.mono ?_
  rintro e w1 ⟨rfl, hb⟩
  have HB1 := Lib.hid (HB.out.trans (hb.mono (by simp)))
  go_wp2_with fail
  refine wp_loop_once ?_
  go_wp2_with fail
  go_ret
  exact ⟨rfl, HB1.out⟩
set_option maxRecDepth 100000 in
set_option maxHeartbeats 1000000 in
theorem indexmap_Clean_none (b : Nat) (D : Dk) (w : World) (seed : Nat) (h : DiskAt w b D) (hd : D.down = false) (he : D.files = []) :
    Calls Tryz.prog 157 #[.pointer (some ⟨b, 0, none⟩), .agg (Mf seed)] w fun e w' => e = .returned (.int .i64 0) ∧ Below w.heap.size w w' := by
  have hB := (Below.refl w.heap.size w).alloc (Nat.le_refl _) (.cells #[.int .i64 0, .int .i64 0, .int .u64 seed, .slice none 0 0] 184)
  have HO := Lib.hid (indexmap_over b D _ (h.below hB) hd (find_empty he _))
  have HP := Lib.hid (indexmap_Orphans_none b D _ seed (h.below hB) he)
  have HB := Lib.hid hB
  clear h he hB hd
  unfold Mf at HP ⊢
  go_enter Tryz.func157, Tryz.ntmps157
  go_wp2_with fail
  refine HO.out.mono ?_
  rintro e w1 ⟨rfl, rfl⟩
  go_wp2_with fail
  refine HP.out.mono ?_
  rintro e w1 ⟨rfl, hb⟩
  have HB1 := Lib.hid (HB.out.trans (hb.mono (by simp)))
  go_wp2_with fail
  refine wp_loop_once ?_
  go_wp2_with fail
  go_ret
  exact ⟨rfl, HB1.out⟩
theorem memtable_New (w : World) :
    Calls Tryz.prog 217 #[] w fun e w' => e = .returned (.pointer (some ⟨w.heap.size, 0, none⟩)) ∧ w' = w.alloc (.cells #[.bool true, .slice none 0 0] 232) := by
  go_enter Tryz.func217, Tryz.ntmps217
  go_wp2_with fail
  go_ret
  exact ⟨rfl, rfl⟩
end Go.Proofs.YtamlhndibcafgaaGreatDoor
