/- Contracts of package disk: Append, Read, Sync. -/
import Derived.Test.YtamlhndibcafgaaGreatDoorDisk2
namespace Go.Proofs.YtamlhndibcafgaaGreatDoor
open Go.RowKit Go.MapKept
open Go.ChangeMaps (setBlock)

def Fl.more (f : Fl) (dv : Value) (s : List UInt8) : Fl := { f with dv := dv, data := f.data ++ s }
def AppPost (b : Nat) (D : Dk) (f : Fl) (s : List UInt8) (w : World) (e : Ending) (w' : World) : Prop :=
  e = .returned (.int .i64 0) ∧ Upd (D.has b) w w' ∧ ∃ dv, (∀ k, dv.ownBlock = some k → f.dv.ownBlock = some k ∨ w.heap.size ≤ k) ∧ DiskAt w' b ({ D with used := D.used + s.length }.upd (f.more dv s)).step
theorem DataAt.slice {w : World} {dv : Value} {l : List UInt8} (h : DataAt w dv l) : ∃ a cap, dv = .slice a l.length cap := by
  rcases h with ⟨rfl, rfl⟩ | ⟨g, cap, cur, rfl, -⟩
  · exact ⟨none, 0, rfl⟩
  · exact ⟨_, _, rfl⟩
theorem DiskAt.drewN {w : World} {b : Nat} {D : Dk} (h : DiskAt w b D) (n : Nat) : DiskAt (w.drewN n) b D := h.below (below_drewN (Below.refl _ _) n)
set_option maxRecDepth 100000 in
set_option maxHeartbeats 1000000 in
theorem disk_Append (b : Nat) (D : Dk) (w : World) (n s : List UInt8) (f : Fl) (h : DiskAt w b D) (hd : D.down = false) (hf : D.find n = some f) (hfi : D.fine) (hroom : s.length ≤ D.cap - D.used) :
    Calls Tryz.prog 161 #[.pointer (some ⟨b, 0, none⟩), .string ⟨n.toArray⟩, .string ⟨s.toArray⟩] w (AppPost b D f s w) := by
  have hm : f ∈ D.files := List.mem_of_find?_eq_some hf
  have hs := h.small
  have HF := Lib.hid (disk_find_some b D w n f h hd hf)
  have HH := Lib.hid h
  have c1 : w.cell? ⟨b, 1, none⟩ = some (.int .i64 D.cap) := by rw [cell_of_block h.blk]; rfl
  have c2 : w.cell? ⟨b, 2, none⟩ = some (.int .i64 D.used) := by rw [cell_of_block h.blk]; rfl
  have d0 : w.cell? ⟨f.fb, 0, none⟩ = some f.dv := by rw [cell_of_block (h.file f hm)]; rfl
  have e1 : IntKind.i64.wrap ((D.cap : Int) - D.used) = D.cap - D.used := IntWalk.i64_in _ (by omega)
  have hsz := h.len hm
  have hsy := h.sizes f hm
  have hroom' : (s.length : Int) ≤ D.cap - D.used := by omega
  have hng : decide ((D.cap : Int) - D.used < s.length) = false := by simp; omega
  have HDATA : Hid (∀ q, DataAt (w.drewN q) f.dv f.data) := Lib.hid (fun q => (h.drewN q).data f hm)
  clear h hd hf
  go_enter Tryz.func161, Tryz.ntmps161
  go_wp2_with fail
  refine HF.out.mono ?_
  rintro e w' ⟨rfl, rfl⟩
  go_wp2_with fail
  go_quiet (fail)
  clear e1
  rename_i nq
  have h1 := HH.out.drewN nq
  have hu1 : Upd (D.has b) w (w.drewN nq) := (Upd.refl _ _).drewN nq
  have HH1 := Lib.hid h1
  have HU1 := Lib.hid hu1
  clear h1 hu1
  obtain ⟨a0, cap0, hv0⟩ := (HDATA.out nq).slice
  rw [hv0] at d0
  have HV0 := Lib.hid hv0
  clear hv0
  go_wp2_with (at_builtin; refine wpList_append_data rfl _ _ rfl f.dv f.data (HDATA.out nq) HV0.out.symm s rfl ?c1 ?_)
  case c1 => have := hs.1; omega
  intro dv' w2 hd2 hu2 ho2
  have hfb := HH1.out.fbs f hm
  have hfile2 := hu2.kept (HH1.out.file f hm) (HH1.out.own2 f hm f hm)
  have hblk2 := hu2.kept HH1.out.blk (fun e => (HH1.out.own f hm b e).1 rfl)
  have d0' : w2.cell? ⟨f.fb, 0, none⟩ = some (.slice a0 f.data.length cap0) := by rw [cell_of_block hfile2, ← HV0.out]; rfl
  have df : w2.frozen? ⟨f.fb, 0, none⟩ = false := frozen_of_block hfile2
  have b2 : w2.cell? ⟨b, 2, none⟩ = some (.int .i64 D.used) := by rw [cell_of_block hblk2]; rfl
  have bf : w2.frozen? ⟨b, 2, none⟩ = false := frozen_of_block hblk2
  obtain ⟨a1, cap1, hv1⟩ := hd2.slice
  rw [List.length_append] at hv1
  have hW : DiskAt ((w2.setCell ⟨f.fb, 0, none⟩ dv').setCell ⟨b, 2, none⟩ (.int .i64 (D.used + s.length : Nat))) b ({ D with used := D.used + s.length }.upd (f.more dv' s)) := by
    have hu3 : Upd (fun k => k = b ∨ k = f.fb ∨ f.dv.ownBlock = some k) (w.drewN nq) ((w2.setCell ⟨f.fb, 0, none⟩ dv').setCell ⟨b, 2, none⟩ (.int .i64 (D.used + s.length : Nat))) :=
      ((hu2.mono (fun k _ hk => .inr (.inr hk))).setCell (.inl (.inr (.inl rfl))) _).setCell (.inl (.inl rfl)) _
    have hk3 : (w2.setCell ⟨f.fb, 0, none⟩ dv').heap[f.fb]? = some (.cells (f.more dv' s).cells 162) := block_setCell hfile2 dv'
    have hk4 : ((w2.setCell ⟨f.fb, 0, none⟩ dv').setCell ⟨b, 2, none⟩ (.int .i64 (D.used + s.length : Nat))).heap[b]? = some (.cells { D with used := D.used + s.length }.cells 159) :=
      block_setCell ((Below.heap_setCell _ _ _ _ (fun e => hfb.1 e.symm)).trans hblk2) _
    refine HH1.out.upd (f' := f.more dv' s) hm rfl rfl rfl _ (by have := hs.2.1; omega) hu3 hk4 ?_ ?_ ho2 ?_ ?_
    · rw [Below.heap_setCell _ _ _ _ hfb.1]; exact hk3
    · exact hd2.kept (S := fun k => k = b ∨ k = f.fb) (((Upd.refl _ _).setCell (.inl (.inr rfl)) _).setCell (.inl (.inl rfl)) _) (fun k hk => by
        rcases ho2 k hk with e | e
        · exact fun h' => by
            rcases h' with rfl | rfl
            · exact (HH1.out.own f hm _ e).1 rfl
            · exact HH1.out.own2 f hm f hm e
        · have := blk_lt HH1.out.blk; have := blk_lt (HH1.out.file f hm); have hzz : (w.drewN nq).heap.size = w.heap.size := rfl; exact fun h' => by rcases h' with rfl | rfl <;> omega)
    · show f.sync ≤ (f.data ++ s).length; rw [List.length_append]; omega
    · show D.used + s.length + f.data.length = D.used + (f.data ++ s).length; rw [List.length_append]; omega
  subst hv1
  have e5 : ((D.used + s.length : Nat) : Int) = (D.used : Int) + s.length := by omega
  have HFA := Lib.hid (disk_fails_no b _ _ hW hfi)
  rw [e5] at HFA
  have HU2 := Lib.hid hu2
  have HO2 := Lib.hid ho2
  clear hW d0 c1 c2 hu2 hd2 ho2 hfile2 hblk2 e5
  go_wp2_with fail
  refine HFA.out.mono ?_
  rintro e w5 ⟨rfl, hD5, hu5⟩
  have hU : Upd (D.has b) w w5 :=
    (((HU1.out.then HU2.out (fun j hj => .inl (.inr (.inr ⟨f, hm, .inr hj⟩)))).setCell (.inl (.inr (.inr ⟨f, hm, .inl rfl⟩))) _).setCell (.inl (.inl rfl)) _).then hu5 (fun j hj => .inl (.inl hj))
  go_wp2_with fail
  go_ret
  exact ⟨rfl, hU, _, HO2.out, hD5⟩
end Go.Proofs.YtamlhndibcafgaaGreatDoor
