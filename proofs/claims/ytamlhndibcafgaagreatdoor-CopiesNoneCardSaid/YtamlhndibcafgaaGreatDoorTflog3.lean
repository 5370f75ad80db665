/- Contracts of package tflog: the disk's contracts as a log sees them; sync. -/
import Derived.Test.YtamlhndibcafgaaGreatDoorTflog2
namespace Go.Proofs.YtamlhndibcafgaaGreatDoor
open Go.RowKit Go.MapKept

theorem LogOn.c0 {w : World} {b : Nat} {L : Lg} {D : Dk} (h : LogOn w b L D) : w.cell? ⟨b, 0, none⟩ = some (.pointer (some ⟨L.bd, 0, none⟩)) := by rw [cell_of_block h.blk]; rfl
theorem LogOn.c3 {w : World} {b : Nat} {L : Lg} {D : Dk} (h : LogOn w b L D) : w.cell? ⟨b, 3, none⟩ = some L.sv := by rw [cell_of_block h.blk]; rfl
theorem LogOn.c4 {w : World} {b : Nat} {L : Lg} {D : Dk} (h : LogOn w b L D) : w.cell? ⟨b, 4, none⟩ = some (.int .i64 L.sure) := by rw [cell_of_block h.blk]; rfl
theorem LogOn.drew {w : World} {b : Nat} {L : Lg} {D : Dk} (h : LogOn w b L D) : LogOn w.drew b L D := h.below (Below.refl _ _).drew
theorem has_step {D : Dk} {b k : Nat} : D.step.has b k ↔ D.has b k := Iff.rfl
theorem has_upd {D : Dk} {f f' : Fl} {b k : Nat} {n : Nat} (hf : f ∈ D.files) (hfb : f'.fb = f.fb) (ho : ∀ k, f'.dv.ownBlock = some k → f.dv.ownBlock = some k ∨ n ≤ k) (h : (D.upd f').has b k) : D.has b k ∨ n ≤ k := by
  rcases h with h | h | ⟨g, hg, h⟩
  · exact .inl (.inl h)
  · exact .inl (.inr (.inl h))
  · simp only [Dk.upd, List.mem_map] at hg
    obtain ⟨x, hx, rfl⟩ := hg
    by_cases hn : x.name = f'.name
    · rw [if_pos hn] at h
      rcases h with h | h
      · exact .inl (.inr (.inr ⟨f, hf, .inl (h.trans hfb)⟩))
      · rcases ho k h with e | e
        · exact .inl (.inr (.inr ⟨f, hf, .inr e⟩))
        · exact .inr e
    · rw [if_neg hn] at h
      exact .inl (.inr (.inr ⟨x, hx, h⟩))
def OnPost (b : Nat) (L : Lg) (D D' : Dk) (w : World) (e : Ending) (w' : World) : Prop :=
  e = .returned (.int .i64 0) ∧ LogOn w' b L D' ∧ Upd (D.has L.bd) w w' ∧ ∀ k, D'.has L.bd k → D.has L.bd k ∨ w.heap.size ≤ k
theorem on_Sync (b : Nat) (L : Lg) (D : Dk) (w : World) (n : List UInt8) (f : Fl) (h : LogOn w b L D) (hd : D.down = false) (hf : D.find n = some f) (hfi : D.fine) :
    Calls Tryz.prog 177 #[.pointer (some ⟨L.bd, 0, none⟩), .string ⟨n.toArray⟩] w (OnPost b L D (D.step.upd f.sure) w) := by
  have hm : f ∈ D.files := List.mem_of_find?_eq_some hf
  refine (disk_Sync L.bd D w n f h.disk hd hf hfi).mono ?_
  rintro e w' ⟨rfl, hu, hD⟩
  have hS : ∀ k, (k = L.bd ∨ k = f.fb) → D.has L.bd k := fun k hk => by
    rcases hk with rfl | rfl
    · exact .inl rfl
    · exact .inr (.inr ⟨f, hm, .inl rfl⟩)
  have hh : ∀ k, (D.step.upd f.sure).has L.bd k → D.has L.bd k ∨ w.heap.size ≤ k := fun k hk => has_upd (D := D.step) (f := f) (f' := f.sure) hm rfl (fun _ h => .inl h) hk
  exact ⟨rfl, h.turn hu hS hD hh, hu.mono (fun k _ hk => hS k hk), hh⟩
theorem has_add {D : Dk} {n : List UInt8} {fb b k : Nat} (h : (D.add n fb).has b k) : D.has b k ∨ k = fb := by
  rcases h with h | h | ⟨g, hg, h⟩
  · exact .inl (.inl h)
  · exact .inl (.inr (.inl h))
  · simp only [Dk.add, List.mem_append, List.mem_singleton] at hg
    rcases hg with hg | rfl
    · exact .inl (.inr (.inr ⟨g, hg, h⟩))
    · rcases h with h | h
      · exact .inr h
      · cases h
def OnNewPost (b : Nat) (L : Lg) (D : Dk) (n : List UInt8) (w : World) (e : Ending) (w' : World) : Prop :=
  e = .returned (.int .i64 0) ∧ ∃ fb, w.heap.size ≤ fb ∧ LogOn w' b L (D.step.add n fb) ∧ Upd (D.has L.bd) w w'
theorem on_Create (b : Nat) (L : Lg) (D : Dk) (w : World) (n : List UInt8) (h : LogOn w b L D) (hd : D.down = false) (hf : D.find n = none) (hnm : nameB n = true) (hl : D.files.length < 400) (hfi : D.fine) :
    Calls Tryz.prog 164 #[.pointer (some ⟨L.bd, 0, none⟩), .string ⟨n.toArray⟩] w (OnNewPost b L D n w) := by
  refine (disk_Create L.bd D w n h.disk hd hf hnm hl hfi).mono ?_
  rintro e w' ⟨rfl, hu, fb, hfb, hD⟩
  have hS : ∀ k, (k = L.bd ∨ k = D.bM) → D.has L.bd k := fun k hk => by
    rcases hk with rfl | rfl
    · exact .inl rfl
    · exact .inr (.inl rfl)
  refine ⟨rfl, fb, hfb, h.turn hu hS hD (fun k hk => ?_), hu.mono (fun k _ hk => hS k hk)⟩
  rcases has_add hk with e | e
  · exact .inl e
  · exact .inr (by omega)
def OnAppPost (b : Nat) (L : Lg) (D : Dk) (f : Fl) (s : List UInt8) (w : World) (e : Ending) (w' : World) : Prop :=
  e = .returned (.int .i64 0) ∧ ∃ dv, (∀ k, dv.ownBlock = some k → f.dv.ownBlock = some k ∨ w.heap.size ≤ k) ∧ LogOn w' b L ({ D with used := D.used + s.length }.upd (f.more dv s)).step ∧ Upd (D.has L.bd) w w'
theorem on_Append (b : Nat) (L : Lg) (D : Dk) (w : World) (n s : List UInt8) (f : Fl) (h : LogOn w b L D) (hd : D.down = false) (hf : D.find n = some f) (hfi : D.fine) (hroom : s.length ≤ D.cap - D.used) :
    Calls Tryz.prog 161 #[.pointer (some ⟨L.bd, 0, none⟩), .string ⟨n.toArray⟩, .string ⟨s.toArray⟩] w (OnAppPost b L D f s w) := by
  have hm : f ∈ D.files := List.mem_of_find?_eq_some hf
  refine (disk_Append L.bd D w n s f h.disk hd hf hfi hroom).mono ?_
  rintro e w' ⟨rfl, hu, dv, hdv, hD⟩
  exact ⟨rfl, dv, hdv, h.turn hu (fun k hk => hk) hD (fun k hk => has_upd (D := { D with used := D.used + s.length }) (f := f) (f' := f.more dv s) hm rfl hdv hk), hu⟩

theorem Upd.toBoth {b : Nat} {L : Lg} {D : Dk} {w w' : World} (h : Upd (D.has L.bd) w w') : Upd (Both b L D) w w' := h.mono (fun _ _ hk => .inr hk)
/-- A number in the log's block turned. -/
theorem LogOn.setSure {w : World} {b : Nat} {L : Lg} {D : Dk} (h : LogOn w b L D) (n : Nat) (hn : n ≤ 1000000000000) :
    LogOn (w.setCell ⟨b, 4, none⟩ (.int .i64 n)) b { L with sure := n } D := by
  have hu : Upd (· = b) w (w.setCell ⟨b, 4, none⟩ (.int .i64 n)) := Upd.setCell (S := (· = b)) (Upd.refl _ w) (.inl rfl) _
  exact ⟨block_setCell h.blk _, ownsRow_upd h.row hu (fun k hk e => h.self (by rw [← e]; exact hk)), h.disk.kept hu (fun k hk e => h.apart k (.inl e) hk), h.apart, h.self, ⟨h.small.1, h.small.2.1, hn⟩, h.each⟩
theorem tflog_sync_none (b : Nat) (L : Lg) (D : Dk) (w : World) (h : LogOn w b L D) (h0 : L.sizes = []) :
    Calls Tryz.prog 135 #[.pointer (some ⟨b, 0, none⟩)] w fun e w' => e = .returned (.int .i64 0) ∧ w = w' := by
  obtain ⟨a, cap, hsv⟩ := ownsRow_slice h.row
  have c3 := h.c3
  rw [h0] at hsv
  rw [hsv] at c3
  clear h hsv
  go_enter Tryz.func135, Tryz.ntmps135
  go_wp2_with fail
  go_ret
  exact ⟨rfl, rfl⟩
def SyncedPost (b : Nat) (L : Lg) (D D' : Dk) (w : World) (e : Ending) (w' : World) : Prop :=
  e = .returned (.int .i64 0) ∧ LogOn w' b { L with sure := endL L.sizes } D' ∧ Upd (Both b L D) w w'
set_option maxRecDepth 100000 in
set_option maxHeartbeats 1000000 in
theorem tflog_sync (b : Nat) (L : Lg) (D : Dk) (w : World) (f : Fl) (h : LogOn w b L D) (h0 : L.sizes ≠ []) (hd : D.down = false) (hf : D.find (chunkL (L.sizes.length - 1)) = some f) (hfi : D.fine) :
    Calls Tryz.prog 135 #[.pointer (some ⟨b, 0, none⟩)] w (SyncedPost b L D (D.step.upd f.sure) w) := by
  obtain ⟨a, cap, hsv⟩ := ownsRow_slice h.row
  have hlen : L.sizes.length ≠ 0 := fun e => h0 (List.eq_nil_of_length_eq_zero e)
  have h200 := h.small.1
  have HL := Lib.hid h
  have hlt := blk_lt h.blk
  have HEND := Lib.hid (endL_le h.small.1 h.each)
  obtain ⟨m, hm⟩ : ∃ m, L.sizes.length = m + 1 := ⟨L.sizes.length - 1, by omega⟩
  rw [hm] at hsv hf
  rw [Nat.add_sub_cancel] at hf
  have HS := Lib.hid hsv
  have HSV : Hid (∀ (w : World) (D : Dk), LogOn w b L D → w.cell? ⟨b, 3, none⟩ = some (.slice a (m + 1) cap)) := Lib.hid (fun w D h => by rw [h.c3, hsv])
  have c0 := h.c0
  have c3 := HSV.out w D h
  have hm2 : m ≤ 199 := by omega
  have e1 : IntKind.i64.wrap (m : Int) = m := IntWalk.i64_in _ (by omega)
  clear h h0 hlen h200 hsv
  go_enter Tryz.func135, Tryz.ntmps135
  go_wp2_with fail
  go_region_held3 (fun w' => w'.cell? ⟨b, 0, none⟩ = some (.pointer (some ⟨L.bd, 0, none⟩)) ∧ w'.cell? ⟨b, 3, none⟩ = some (.slice a (m + 1) cap))
    (first | exact ⟨c0, c3⟩ | exact ⟨(HL.out.drew.below hb).c0, HSV.out _ _ (HL.out.drew.below hb)⟩ | exact ⟨hl3.c0, HSV.out _ _ hl3⟩)
    ((first | (go_at_call 130; refine (names_Chunk m _ (by omega)).mono ?_; rintro e w' ⟨rfl, hb⟩)
            | (go_at_call 177; refine (on_Sync b L D _ (chunkL m) f (HL.out.drew.below hb) hd hf hfi).mono ?_; rintro e w3 ⟨rfl, hl3, hu3, -⟩)))
  rename_i hHeld
  have hU := Lib.hid ((Upd.refl (Both b L D) w).then ((Upd.of_below ((Below.refl _ _).drew.trans hb)).then hu3 (fun _ h => .inl h)) (fun _ h => .inl (.inr h)))
  have HL3 := Lib.hid hl3
  have f4 : w3.frozen? ⟨b, 4, none⟩ = false := frozen_of_block hl3.blk
  have c4 := hl3.c4
  clear e1 c0 c3 hu3 hb hl3 hHeld
  go_wp2_with fail
  refine (tflog_End b L _ w3 HL3.out).mono ?_
  rintro e w4 ⟨rfl, rfl⟩
  have HW := Lib.hid (HL3.out.setSure (endL L.sizes) (by have := HEND.out; omega))
  go_wp2_with fail
  go_ret
  exact ⟨rfl, HW.out, hU.out.setCell (.inl (.inl (.inl rfl))) _⟩
end Go.Proofs.YtamlhndibcafgaaGreatDoor
