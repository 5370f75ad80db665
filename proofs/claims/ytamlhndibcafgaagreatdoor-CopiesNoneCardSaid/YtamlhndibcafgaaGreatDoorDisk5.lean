/- Contracts of package disk: Sync. -/
import Derived.Test.YtamlhndibcafgaaGreatDoorDisk4
namespace Go.Proofs.YtamlhndibcafgaaGreatDoor
open Go.RowKit Go.MapKept
open Go.ChangeMaps (setBlock)

def Fl.sure (f : Fl) : Fl := { f with sync := f.data.length }
def SyncPost (b : Nat) (D : Dk) (f : Fl) (w : World) (e : Ending) (w' : World) : Prop :=
  e = .returned (.int .i64 0) ∧ Upd (fun k => k = b ∨ k = f.fb) w w' ∧ DiskAt w' b (D.step.upd f.sure)
theorem Dk.upd_used (D : Dk) (f : Fl) : ({ D with used := D.used } : Dk).upd f = D.upd f := rfl
set_option maxRecDepth 100000 in
set_option maxHeartbeats 1000000 in
theorem disk_Sync (b : Nat) (D : Dk) (w : World) (n : List UInt8) (f : Fl) (h : DiskAt w b D) (hd : D.down = false) (hf : D.find n = some f) (hfi : D.fine) :
    Calls Tryz.prog 177 #[.pointer (some ⟨b, 0, none⟩), .string ⟨n.toArray⟩] w (SyncPost b D f w) := by
  have hm : f ∈ D.files := List.mem_of_find?_eq_some hf
  have hs := h.small
  have HF := Lib.hid (disk_find_some b D w n f h hd hf)
  have HA := Lib.hid (disk_fails_no b D w h hfi)
  have hlen := h.len hm
  have hlen2 : f.data.length ≤ 1048576 := by omega
  have hfb := h.fbs f hm
  have hfile := h.file f hm
  have hown2 := h.own2 f hm f hm
  clear h hd hf hs hlen
  go_enter Tryz.func177, Tryz.ntmps177
  go_wp2_with fail
  refine HF.out.mono ?_
  rintro e w' ⟨rfl, rfl⟩
  go_wp2_with fail
  refine HA.out.mono ?_
  rintro e w1 ⟨rfl, hD1, hu1⟩
  have hfile1 := hu1.kept hfile hfb.1
  have hdat := hD1.data f hm
  obtain ⟨a0, cap0, hv0⟩ := hdat.slice
  have d0 : w1.cell? ⟨f.fb, 0, none⟩ = some (.slice a0 f.data.length cap0) := by rw [cell_of_block hfile1, ← hv0]; rfl
  have d1 : w1.cell? ⟨f.fb, 1, none⟩ = some (.int .i64 f.sync) := by rw [cell_of_block hfile1]; rfl
  have df : w1.frozen? ⟨f.fb, 1, none⟩ = false := frozen_of_block hfile1
  have hW : DiskAt (w1.setCell ⟨f.fb, 1, none⟩ (.int .i64 f.data.length)) b (D.step.upd f.sure) := by
    have hu : Upd (fun k => k = b ∨ k = f.fb ∨ f.dv.ownBlock = some k) w1 (w1.setCell ⟨f.fb, 1, none⟩ (.int .i64 f.data.length)) := (Upd.refl _ _).setCell (.inl (.inr (.inl rfl))) _
    refine hD1.upd (f' := f.sure) hm rfl rfl rfl D.used hD1.small.2.1 hu ?_ (block_setCell hfile1 _) ?_ (fun k hk => .inl hk) (Nat.le_refl _) rfl
    · rw [Below.heap_setCell _ _ _ _ (fun e => hfb.1 e.symm)]; exact hD1.blk
    · exact hdat.kept (S := (· = f.fb)) (Upd.setCell (S := (· = f.fb)) (Upd.refl _ _) (.inl rfl) _) (fun k hk e => hown2 (by rw [← e]; exact hk))
  have HW := Lib.hid hW
  have HU := Lib.hid (show Upd (fun k => k = b ∨ k = f.fb) w (w1.setCell ⟨f.fb, 1, none⟩ (.int .i64 f.data.length)) from (hu1.mono (fun k _ hk => .inl hk)).setCell (.inl (.inr rfl)) _)
  clear hW hv0 hdat hD1 hu1 hfile1 hfile hfb hown2
  go_wp2_with fail
  go_ret
  exact ⟨rfl, HU.out, HW.out⟩
end Go.Proofs.YtamlhndibcafgaaGreatDoor
