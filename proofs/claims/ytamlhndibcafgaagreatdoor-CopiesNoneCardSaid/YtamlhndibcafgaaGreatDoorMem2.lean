/- Contracts of entries.Put, memtable.Add into an empty memory, index.Add. -/
import Derived.Test.YtamlhndibcafgaaGreatDoorBatch1
import Derived.Deep.RegionLaw
namespace Go.Proofs.YtamlhndibcafgaaGreatDoor
open Go.RowKit Go.MapKept

def putEn (e : En) : List UInt8 := be 8 e.h ++ be 8 e.v ++ be 8 e.p
set_option maxRecDepth 100000 in
set_option maxHeartbeats 1000000 in
theorem entries_Put (e : En) (w : World) (h1 : e.v ≤ 1073741824) (h2 : e.p ≤ 100000000) :
    Calls Tryz.prog 122 #[e.val] w fun r w' => r = .returned (.string ⟨(putEn e).toArray⟩) ∧ Below w.heap.size w w' := by
  obtain ⟨h, v, p⟩ := e
  unfold En.val putEn
  simp only at h1 h2 ⊢
  have hB := (Below.refl w.heap.size w).alloc (Nat.le_refl _) (.cells #[.int .u64 h, .int .i64 v, .int .i64 p] 142)
  have hk := blk_new (w := w) rfl (.cells #[.int .u64 h, .int .i64 v, .int .i64 p] 142)
  obtain ⟨W, hW⟩ : ∃ W, w.alloc (.cells #[.int .u64 h, .int .i64 v, .int .i64 p] 142) = W := ⟨_, rfl⟩
  rw [hW] at hB hk
  have HW := Lib.hid hW
  have HB := Lib.hid hB
  have HK := Lib.hid hk
  have HP1 : Hid (∀ w', Calls Tryz.prog 33 #[.int .u64 h, .int .i64 8] w' fun e w'' => e = .returned (.string ⟨(be 8 h).toArray⟩) ∧ Below w'.heap.size w' w'') := Lib.hid (fun w' => nums_Put h 8 w' (by omega) (by omega))
  have HP2 : Hid (∀ w', Calls Tryz.prog 33 #[.int .u64 v, .int .i64 8] w' fun e w'' => e = .returned (.string ⟨(be 8 v).toArray⟩) ∧ Below w'.heap.size w' w'') := Lib.hid (fun w' => nums_Put v 8 w' (by omega) (by omega))
  have HP3 : Hid (∀ w', Calls Tryz.prog 33 #[.int .u64 p, .int .i64 8] w' fun e w'' => e = .returned (.string ⟨(be 8 p).toArray⟩) ∧ Below w'.heap.size w' w'') := Lib.hid (fun w' => nums_Put p 8 w' (by omega) (by omega))
  have hsz : W.heap.size = w.heap.size + 1 := by rw [← hW]; simp
  have hsz1 : w.heap.size ≤ W.heap.size := by omega
  clear hB hk hW hsz
  have HKEEP : Hid (∀ w', Below W.heap.size W w' → w'.cell? ⟨w.heap.size, 0, none⟩ = some (.int .u64 h) ∧ w'.cell? ⟨w.heap.size, 1, none⟩ = some (.int .i64 v) ∧ w'.cell? ⟨w.heap.size, 2, none⟩ = some (.int .i64 p)) := Lib.hid (fun w' hb => by
    have := blk_kept hb HK.out
    exact ⟨by rw [cell_of_block this]; rfl, by rw [cell_of_block this]; rfl, by rw [cell_of_block this]; rfl⟩)
  obtain ⟨p_c0, p_c1, p_c2⟩ := HKEEP.out W (Below.refl _ _)
  go_enter Tryz.func122, Tryz.ntmps122
  go_wp2_with fail
  rw [HW.out]
  have e1 : IntKind.u64.wrap (v : Int) = v := IntWalk.u64_in _ (by omega)
  have e2 : IntKind.u64.wrap (p : Int) = p := IntWalk.u64_in _ (by omega)
  go_region_held3 (fun w' => w'.cell? ⟨w.heap.size, 0, none⟩ = some (.int .u64 h) ∧ w'.cell? ⟨w.heap.size, 1, none⟩ = some (.int .i64 v) ∧ w'.cell? ⟨w.heap.size, 2, none⟩ = some (.int .i64 p))
    (first | exact HKEEP.out _ (Below.refl _ _).drew | exact HKEEP.out _ (Below.refl _ _) | exact HKEEP.out _ (((((Below.refl _ _).drew.trans hbt).trans (hbp.mono hbt.size))).trans (hbq.mono (Nat.le_trans hbt.size hbp.size))) | exact HKEEP.out _ (((Below.refl _ _).drew.trans hbt).trans (hbp.mono hbt.size)) | exact HKEEP.out _ ((Below.refl _ _).drew.trans hbt))
    ((first | (go_at_call 33; with_reducible refine (HP1.out _).mono ?_; rintro e w2 ⟨rfl, hbt⟩)
            | (go_at_call 33; with_reducible refine (HP2.out _).mono ?_; rintro e w3 ⟨rfl, hbp⟩)
            | (go_at_call 33; with_reducible refine (HP3.out _).mono ?_; rintro e w4 ⟨rfl, hbq⟩)))
  clear e1 e2
  have hBr := HB.out.trans (((((Below.refl W.heap.size W).drew.trans hbt).trans (hbp.mono hbt.size)).trans (hbq.mono (Nat.le_trans hbt.size hbp.size))).mono hsz1)
  go_wp2_with fail
  go_ret
  exact ⟨by simp, hBr⟩
end Go.Proofs.YtamlhndibcafgaaGreatDoor
