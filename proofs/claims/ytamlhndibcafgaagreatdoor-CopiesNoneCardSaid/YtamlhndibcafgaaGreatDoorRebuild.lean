/- Contracts of package rebuild, over an empty disk. -/
import Derived.Test.YtamlhndibcafgaaGreatDoorIdx2
import Derived.Test.YtamlhndibcafgaaGreatDoorNext
namespace Go.Proofs.YtamlhndibcafgaaGreatDoor
open Go.RowKit Go.MapKept

set_option maxRecDepth 100000 in
set_option maxHeartbeats 1000000 in
theorem rebuild_lying_none (bd : Nat) (D : Dk) (w : World) (l : Value) (seed rate : Nat) (h : DiskAt w bd D) (hd : D.down = false) (hf : D.find [109, 97, 112] = none) :
    Calls Tryz.prog 154 #[.pointer (some ⟨bd, 0, none⟩), l, .int .u64 seed, .float .f64 rate] w fun e w' => e = .returned (.tuple #[.pointer none, .int .i64 4]) ∧ Below w.heap.size w w' := by
  have HL := Lib.hid (indexmap_Load_none bd D w h hd hf)
  clear h hd hf
  go_enter Tryz.func154, Tryz.ntmps154
  go_wp2_with fail
  refine HL.out.mono ?_
  rintro e w1 ⟨rfl, hb⟩
  have HB := Lib.hid (hb.alloc hb.size (.cells #[.int .i64 0, .int .i64 0, .int .u64 0, .slice none 0 0] 184))
  clear hb
  unfold noneM
  go_wp2_with fail
  go_ret2
  exact ⟨rfl, HB.out⟩
theorem nextL_nil (pos : Nat) : nextL [] pos (([] : List (List UInt8)).length - pos / 4096) (pos / 4096) = none := by
  rw [List.length_nil, Nat.zero_sub]; rfl
theorem nextPost_none {b : Nat} {L : Lg} {D : Dk} {r : Option (List UInt8 × Nat × Nat)} {w w' : World} {e : Ending} (h : NextPost b L D r w e w') (hr : r = none) :
    e = .returned (.tuple #[.string ⟨#[]⟩, .int .i64 0, .int .i64 0, .int .i64 4]) ∧ ∃ r, LogOn w' b L (D.rd r) ∧ Upd (Both b L D) w w' := by subst hr; exact h
theorem nextPost_some {b : Nat} {L : Lg} {D : Dk} {r : Option (List UInt8 × Nat × Nat)} {w w' : World} {e : Ending} {p : List UInt8} {i j : Nat} (h : NextPost b L D r w e w') (hr : r = some (p, i, j)) :
    e = .returned (.tuple #[.string ⟨p.toArray⟩, .int .i64 i, .int .i64 j, .int .i64 0]) ∧ ∃ r, LogOn w' b L (D.rd r) ∧ Upd (Both b L D) w w' := by subst hr; exact h
theorem field_seed (seed : Nat) : ∀ w : World, (Instr.field 184 (.agg #[.int .i64 0, .int .i64 0, .int .u64 seed, .slice none 0 0]) 2).run Tryz.prog w = .ok (.int .u64 seed) w := fun _ => by kernel_rfl
/-- A step that reads the disk, however often. -/
def ReadsPost (b : Nat) (L : Lg) (D : Dk) (w w' : World) : Prop := ∃ r, LogOn w' b L (D.rd r) ∧ Upd (Both b L D) w w'
set_option maxRecDepth 100000 in
set_option maxHeartbeats 1000000 in
theorem rebuild_replay_none (bx bl : Nat) (X : Ix) (L : Lg) (D : Dk) (w : World) (hx : IxAt w bx X) (hlog : LogOn w bl L D) (hl : L.live D) (h0 : L.sizes = []) :
    Calls Tryz.prog 158 #[.pointer (some ⟨bx, 0, none⟩), .pointer (some ⟨bl, 0, none⟩), .int .i64 0] w fun e w' => e = .returned (.int .i64 0) ∧ ReadsPost bl L D w w' := by
  have HM := Lib.hid (index_Manifest bx X w hx)
  have HL := Lib.hid hlog
  have HN : Hid (∀ w', LogOn w' bl L D → Calls Tryz.prog 93 #[.pointer (some ⟨bl, 0, none⟩), .int .i64 (0 : Nat)] w' (NextPost bl L D none w')) := Lib.hid (fun w' h => by
    have := tflog_Next bl L D w' [] 0 h hl ⟨by rw [h0]; rfl, fun i s h => by cases h⟩ (by omega)
    rwa [nextL_nil] at this)
  have hfd := field_seed X.seed
  clear hx hlog hl h0
  go_enter Tryz.func158, Tryz.ntmps158
  go_wp2_with fail
  refine HM.out.mono ?_
  rintro e w1 ⟨rfl, hb⟩
  have HL1 := Lib.hid (HL.out.below hb)
  have HB1 := Lib.hid hb
  clear hb
  unfold Mf
  go_wp2_with fail
  refine wp_loop_once ?_
  go_wp2_with fail
  refine (HN.out w1 HL1.out).mono ?_
  intro e w2 hp
  obtain ⟨rfl, k, hl2, hu2⟩ := nextPost_none hp rfl
  have HP : Hid (ReadsPost bl L D w w2) := Lib.hid ⟨k, hl2, (Upd.of_below HB1.out).then hu2 (fun _ h => .inl h)⟩
  clear hp hl2 hu2
  go_wp2_with fail
  go_ret
  exact ⟨rfl, HP.out⟩
theorem LogOn.both_lt {w : World} {b : Nat} {L : Lg} {D : Dk} (h : LogOn w b L D) {k : Nat} (hk : Both b L D k) : k < w.heap.size := hk.elim (fun e => h.has_lt e) (fun e => h.disk.has_lt e)
/-- A fresh index over a log. -/
def RebuiltPost (bl : Nat) (L : Lg) (D : Dk) (seed rate : Nat) (w : World) (e : Ending) (w' : World) : Prop :=
  ∃ bx bm bt k, e = .returned (.tuple #[.pointer (some ⟨bx, 0, none⟩), .bool true, .int .i64 0]) ∧ w.heap.size ≤ bx ∧ w.heap.size ≤ bm ∧ IxAt w' bx (freshIx L.bd bm bt seed rate) ∧ LogOn w' bl L (D.rd k) ∧ Upd (Both bl L D) w w'
set_option maxRecDepth 100000 in
set_option maxHeartbeats 2000000 in
theorem rebuild_Open_none (bl : Nat) (L : Lg) (D : Dk) (w : World) (seed rate : Nat) (hlog : LogOn w bl L D) (hl : L.live D) (h0 : L.sizes = []) (he : D.files = []) :
    Calls Tryz.prog 114 #[.pointer (some ⟨L.bd, 0, none⟩), .pointer (some ⟨bl, 0, none⟩), .int .u64 seed, .float .f64 rate] w (RebuiltPost bl L D seed rate w) := by
  have HLY := Lib.hid (rebuild_lying_none L.bd D w (.pointer (some ⟨bl, 0, none⟩)) seed rate hlog.disk hl.2.1 (find_empty he _))
  have HL := Lib.hid hlog
  have HDEL : Hid (∀ w', DiskAt w' L.bd D → Calls Tryz.prog 149 #[.pointer (some ⟨L.bd, 0, none⟩), .string ⟨[109, 97, 112].toArray⟩] w' fun e w'' => e = .returned (.int .i64 4) ∧ w' = w'') :=
    Lib.hid (fun w' h => disk_Delete_none L.bd D w' [109, 97, 112] h hl.2.1 (find_empty he _))
  have HIX : Hid (∀ w', DiskAt w' L.bd D → Calls Tryz.prog 155 #[.pointer (some ⟨L.bd, 0, none⟩), .agg #[.int .i64 0, .int .i64 0, .int .u64 seed, .slice none 0 0], .float .f64 rate] w' (IxPost L.bd seed rate w')) :=
    Lib.hid (fun w' h => index_Open_none L.bd D w' seed rate h hl.2.1 (find_empty he _))
  have HCL : Hid (∀ w', DiskAt w' L.bd D → Calls Tryz.prog 157 #[.pointer (some ⟨L.bd, 0, none⟩), .agg #[.int .i64 0, .int .i64 0, .int .u64 seed, .slice none 0 0]] w' fun e w'' => e = .returned (.int .i64 0) ∧ Below w'.heap.size w' w'') :=
    Lib.hid (fun w' h => indexmap_Clean_none L.bd D w' seed h hl.2.1 he)
  have HRP : Hid (∀ w' bx X, IxAt w' bx X → LogOn w' bl L D → Calls Tryz.prog 158 #[.pointer (some ⟨bx, 0, none⟩), .pointer (some ⟨bl, 0, none⟩), .int .i64 0] w' fun e w'' => e = .returned (.int .i64 0) ∧ ReadsPost bl L D w' w'') :=
    Lib.hid (fun w' bx X hx hlog => rebuild_replay_none bx bl X L D w' hx hlog hl h0)
  clear hlog hl h0 he
  go_enter Tryz.func114, Tryz.ntmps114
  go_wp2_with fail
  refine HLY.out.mono ?_
  rintro e w1 ⟨rfl, hb1⟩
  have HB1 := Lib.hid hb1
  have HL1 := Lib.hid (HL.out.below hb1)
  clear hb1
  go_wp2_with fail
  refine (HDEL.out w1 HL1.out.disk).mono ?_
  rintro e w2 ⟨rfl, rfl⟩
  go_wp2_with fail
  refine (HIX.out w1 HL1.out.disk).mono ?_
  rintro e w2 ⟨bx, bm, bt, rfl, hbx, hbm, hix, hb2⟩
  have hsz1 := HB1.out.size
  have hbx1 : w.heap.size ≤ bx := Nat.le_trans hsz1 hbx
  have hbm1 : w.heap.size ≤ bm := Nat.le_trans hsz1 hbm
  have HIX2 := Lib.hid hix
  have HL2 := Lib.hid (HL1.out.below hb2)
  have HB2 := Lib.hid (HB1.out.trans (hb2.mono hsz1))
  clear hix hb2 hbx hbm
  go_wp2_with fail
  refine (show Calls Tryz.prog 156 #[.pointer (some ⟨bx, 0, none⟩)] w2 fun e w' => e = .returned (.agg #[.int .i64 0, .int .i64 0, .int .u64 seed, .slice none 0 0]) ∧ Below w2.heap.size w2 w' from index_Manifest bx _ w2 HIX2.out).mono ?_
  rintro e w3 ⟨rfl, hb3⟩
  have HIX3 := Lib.hid (HIX2.out.below hb3)
  have HL3 := Lib.hid (HL2.out.below hb3)
  have HB3 := Lib.hid (HB2.out.trans (hb3.mono HB2.out.size))
  clear hb3
  go_wp2_with fail
  have hbw : Below w3.heap.size w3 (w3.alloc (.cells #[.int .i64 0, .int .i64 0, .int .u64 seed, .slice none 0 0] 184)) := (Below.refl _ _).alloc (Nat.le_refl _) _
  have HIX4 := Lib.hid (HIX3.out.below hbw)
  have HL4 := Lib.hid (HL3.out.below hbw)
  have HB4 := Lib.hid (HB3.out.trans (hbw.mono HB3.out.size))
  have HK4 := Lib.hid (blk_new (w := w3) rfl (.cells #[.int .i64 0, .int .i64 0, .int .u64 seed, .slice none 0 0] 184))
  clear hbw
  generalize w3.alloc (.cells #[.int .i64 0, .int .i64 0, .int .u64 seed, .slice none 0 0] 184) = w4 at *
  refine (HCL.out w4 HL4.out.disk).mono ?_
  rintro e w5 ⟨rfl, hb5⟩
  have HIX5 := Lib.hid (HIX4.out.below hb5)
  have HL5 := Lib.hid (HL4.out.below hb5)
  have HB5 := Lib.hid (HB4.out.trans (hb5.mono HB4.out.size))
  have hk5 := blk_kept hb5 HK4.out
  have c1 : w5.cell? ⟨w3.heap.size, 1, none⟩ = some (.int .i64 0) := by rw [cell_of_block hk5]; rfl
  clear hb5 hk5
  go_wp2_with fail
  refine (HRP.out w5 bx _ HIX5.out HL5.out).mono ?_
  rintro e w6 ⟨rfl, k, hl6, hu6⟩
  have hix6 : IxAt w6 bx (freshIx L.bd bm bt seed rate) := HIX5.out.kept hu6 (fun j hj hB => by
    have h1 := HL.out.both_lt hB
    rcases hj with e | e | hj
    · omega
    · have e' : j = bm := e
      omega
    · cases hj)
  have HIX6 := Lib.hid hix6
  have HL6 := Lib.hid hl6
  have HU6 := Lib.hid ((Upd.of_below HB5.out).then hu6 (fun _ h => .inl h))
  clear hix6 hl6 hu6 c1
  go_wp2_with fail
  go_ret3
  exact ⟨bx, bm, bt, k, rfl, hbx1, hbm1, HIX6.out, HL6.out, HU6.out⟩
end Go.Proofs.YtamlhndibcafgaaGreatDoor
