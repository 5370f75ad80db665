/- Contracts of package tflog: room, note, ready, sync. -/
import Derived.Test.YtamlhndibcafgaaGreatDoorTflog
namespace Go.Proofs.YtamlhndibcafgaaGreatDoor
open Go.RowKit Go.MapKept

def Drew (w w' : World) : Prop := ∃ n, w' = w.drewN n
theorem Drew.below {w w' : World} (h : Drew w w') : Below w.heap.size w w' := by obtain ⟨n, rfl⟩ := h; exact below_drewN (Below.refl _ _) _
set_option maxRecDepth 100000 in
set_option maxHeartbeats 400000 in
theorem tflog_room (b : Nat) (L : Lg) (D : Dk) (w : World) (k : Nat) (h : LogOn w b L D) (hk : k ≤ 1048576) :
    Calls Tryz.prog 160 #[.pointer (some ⟨b, 0, none⟩), .int .i64 k] w fun e w' => e = .returned (.bool (decide (6000 + k + D.used ≤ D.cap))) ∧ Drew w w' := by
  have c0 : w.cell? ⟨b, 0, none⟩ = some (.pointer (some ⟨L.bd, 0, none⟩)) := by rw [cell_of_block h.blk]; rfl
  have HF := Lib.hid (disk_Free L.bd D w h.disk)
  have hs := h.disk.small
  have h1 := hs.1; have h2 := hs.2.1
  clear h hs
  go_enter Tryz.func160, Tryz.ntmps160
  go_wp2_with fail
  refine HF.out.mono ?_
  rintro e w' ⟨rfl, hw⟩
  go_wp2_with fail
  go_ret
  exact ⟨ret_bool (decide_eq_decide.2 (by omega)), hw⟩
set_option maxHeartbeats 400000 in
theorem tflog_note (b : Nat) (L : Lg) (D : Dk) (w : World) (h : LogOn w b L D) (hd : L.dead = false) :
    Calls Tryz.prog 131 #[.pointer (some ⟨b, 0, none⟩), .int .i64 0] w fun e w' => e = .returned (.int .i64 0) ∧ LogOn w' b L D ∧ Upd (· = b) w w' := by
  have hk := h.blk
  have c2 : w.cell? ⟨b, 2, none⟩ = some (.bool false) := by rw [cell_of_block hk, Lg.cells, hd]; rfl
  have f2 : w.frozen? ⟨b, 2, none⟩ = false := frozen_of_block hk
  have hu : Upd (· = b) w (w.setCell ⟨b, 2, none⟩ (.bool false)) := Upd.setCell (S := (· = b)) (Upd.refl _ w) (.inl rfl) _
  have hW : LogOn (w.setCell ⟨b, 2, none⟩ (.bool false)) b L D := by
    refine ⟨?_, ownsRow_upd h.row hu (fun k hk e => h.self (by rw [← e]; exact hk)), h.disk.kept hu (fun k hk e => h.apart k (.inl e) hk), h.apart, h.self, h.small, h.each⟩
    have := block_setCell (i := 2) hk (.bool false)
    rwa [show L.cells.setIfInBounds 2 (.bool false) = L.cells by rw [Lg.cells, hd]; rfl] at this
  have HW := Lib.hid hW
  have HU := Lib.hid hu
  clear h hW hu hk
  go_enter Tryz.func131, Tryz.ntmps131
  go_wp2_with fail
  go_ret
  exact ⟨rfl, HW.out, HU.out⟩
/-- A log that may be used. -/
def Lg.live (L : Lg) (D : Dk) : Prop := L.dead = false ∧ D.down = false ∧ D.starts = L.starts
set_option maxRecDepth 100000 in
set_option maxHeartbeats 1000000 in
theorem tflog_ready (b : Nat) (L : Lg) (D : Dk) (w : World) (h : LogOn w b L D) (hl : L.live D) :
    Calls Tryz.prog 115 #[.pointer (some ⟨b, 0, none⟩)] w fun e w' => e = .returned (.int .i64 0) ∧ Drew w w' := by
  have hk := h.blk
  have c0 : w.cell? ⟨b, 0, none⟩ = some (.pointer (some ⟨L.bd, 0, none⟩)) := by rw [cell_of_block hk]; rfl
  have c1 : w.cell? ⟨b, 1, none⟩ = some (.int .i64 L.starts) := by rw [cell_of_block hk]; rfl
  have c2 : w.cell? ⟨b, 2, none⟩ = some (.bool false) := by rw [cell_of_block hk, Lg.cells, hl.1]; rfl
  have HU : Hid (∀ n, Calls Tryz.prog 68 #[.pointer (some ⟨L.bd, 0, none⟩)] (w.drewN n) fun e w' => e = .returned (.bool true) ∧ w' = w.drewN n) :=
    Lib.hid (fun n => by have := disk_Up L.bd D (w.drewN n) (h.disk.drewN n); rw [hl.2.1] at this; exact this.mono fun _ _ h => ⟨h.1, h.2.symm⟩)
  have HS : Hid (∀ n, Calls Tryz.prog 151 #[.pointer (some ⟨L.bd, 0, none⟩)] (w.drewN n) fun e w' => e = .returned (.int .i64 L.starts) ∧ w' = w.drewN n) :=
    Lib.hid (fun n => by have := disk_Starts L.bd D (w.drewN n) (h.disk.drewN n); rw [hl.2.2] at this; exact this.mono fun _ _ h => ⟨h.1, h.2.symm⟩)
  clear h hl hk
  go_enter Tryz.func115, Tryz.ntmps115
  go_wp2_with fail
  go_quiet ((first | (go_at_call 68; exact Calls.quiet_of_same (HU.out _)) | (go_at_call 151; exact Calls.quiet_of_same (HS.out _))))
  go_wp2_with fail
  go_ret
  exact ⟨rfl, _, rfl⟩
end Go.Proofs.YtamlhndibcafgaaGreatDoor
