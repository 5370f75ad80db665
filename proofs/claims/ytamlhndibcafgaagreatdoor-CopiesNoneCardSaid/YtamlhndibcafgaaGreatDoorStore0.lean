/- A store in memory; contracts of store.Open on an empty disk, none; of the questions to an empty index. -/
import Derived.Test.YtamlhndibcafgaaGreatDoorRebuild
namespace Go.Proofs.YtamlhndibcafgaaGreatDoor
open Go.RowKit Go.MapKept

structure St where
  bl : Nat
  bx : Nat
  seed : Nat
  L : Lg
  D : Dk
  X : Ix
def St.has (b : Nat) (S : St) (k : Nat) : Prop := k = b ∨ Both S.bl S.L S.D k ∨ S.X.has S.bx k
structure StoreAt (w : World) (b : Nat) (S : St) : Prop where
  blk : w.heap[b]? = some (.cells #[.pointer (some ⟨S.bl, 0, none⟩), .pointer (some ⟨S.bx, 0, none⟩), .int .u64 S.seed] 138)
  log : LogOn w S.bl S.L S.D
  ix : IxAt w S.bx S.X
  apart : ∀ k, S.X.has S.bx k → ¬ Both S.bl S.L S.D k
  self : ¬ Both S.bl S.L S.D b ∧ ¬ S.X.has S.bx b
  seed : S.X.seed = S.seed
theorem StoreAt.has_lt {w : World} {b : Nat} {S : St} (h : StoreAt w b S) {k : Nat} (hk : S.has b k) : k < w.heap.size := by
  rcases hk with rfl | hk | hk
  · exact blk_lt h.blk
  · exact h.log.both_lt hk
  · exact h.ix.has_lt hk
theorem StoreAt.below {w w' : World} {b : Nat} {S : St} (h : StoreAt w b S) (hu : Below w.heap.size w w') : StoreAt w' b S :=
  ⟨blk_kept hu h.blk, h.log.below hu, h.ix.below hu, h.apart, h.self, h.seed⟩
/-- Log and disk turned, the index did not. -/
theorem StoreAt.turn {w w' : World} {b : Nat} {S : St} {L' : Lg} {D' : Dk} (h : StoreAt w b S) (hu : Upd (Both S.bl S.L S.D) w w') (hl : LogOn w' S.bl L' D')
    (hh : ∀ k, Both S.bl L' D' k → Both S.bl S.L S.D k ∨ w.heap.size ≤ k) : StoreAt w' b { S with L := L', D := D' } where
  blk := hu.kept h.blk h.self.1
  log := hl
  ix := h.ix.kept hu h.apart
  apart := fun k hk hB => by
    rcases hh k hB with e | e
    · exact h.apart k hk e
    · have := h.ix.has_lt hk; omega
  self := ⟨fun hB => by
    rcases hh b hB with e | e
    · exact h.self.1 e
    · have := blk_lt h.blk; omega, h.self.2⟩
  seed := h.seed
set_option maxHeartbeats 400000 in
theorem store_none (b : Nat) (S : St) (w : World) (h : StoreAt w b S) :
    Calls Tryz.prog 80 #[.pointer (some ⟨b, 0, none⟩)] w fun e w' => e = .returned (.bool false) ∧ w = w' := by
  have c0 : w.cell? ⟨b, 0, none⟩ = some (.pointer (some ⟨S.bl, 0, none⟩)) := by rw [cell_of_block h.blk]; rfl
  clear h
  go_enter Tryz.func80, Tryz.ntmps80
  go_wp2_with fail
  go_ret
  exact ⟨rfl, rfl⟩
set_option maxHeartbeats 400000 in
theorem store_none_nil (w : World) :
    Calls Tryz.prog 80 #[.pointer none] w fun e w' => e = .returned (.bool true) ∧ w = w' := by
  go_enter Tryz.func80, Tryz.ntmps80
  go_wp2_with fail
  go_ret
  exact ⟨rfl, rfl⟩
def freshSt (bd bl bx bm bt seed rate starts : Nat) (D : Dk) : St := { bl := bl, bx := bx, seed := seed, L := newLg bd starts, D := D, X := freshIx bd bm bt seed rate }
def StorePost (bd : Nat) (D : Dk) (seed rate : Nat) (w : World) (e : Ending) (w' : World) : Prop :=
  ∃ b bl bx bm bt k, e = .returned (.tuple #[.pointer (some ⟨b, 0, none⟩), .int .i64 0]) ∧ w.heap.size ≤ b ∧ StoreAt w' b (freshSt bd bl bx bm bt seed rate D.starts (D.rd k)) ∧ Upd (D.has bd) w w' ∧ w.heap.size ≤ bl ∧ w.heap.size ≤ bx ∧ w.heap.size ≤ bm
set_option maxRecDepth 100000 in
set_option maxHeartbeats 1000000 in
theorem store_Open_none (bd : Nat) (D : Dk) (w : World) (seed rate : Nat) (h : DiskAt w bd D) (hd : D.down = false) (he : D.files = []) :
    Calls Tryz.prog 78 #[.pointer (some ⟨bd, 0, none⟩), .int .u64 seed, .float .f64 rate] w (StorePost bd D seed rate w) := by
  have HT := Lib.hid (tflog_Open_none bd D w h hd he)
  have HR : Hid (∀ w' bl, LogOn w' bl (newLg bd D.starts) D → Calls Tryz.prog 114 #[.pointer (some ⟨bd, 0, none⟩), .pointer (some ⟨bl, 0, none⟩), .int .u64 seed, .float .f64 rate] w' (RebuiltPost bl (newLg bd D.starts) D seed rate w')) :=
    Lib.hid (fun w' bl hl => rebuild_Open_none bl (newLg bd D.starts) D w' seed rate hl ⟨rfl, hd, rfl⟩ rfl he)
  have HLT := Lib.hid (fun k (hk : D.has bd k) => h.has_lt hk)
  clear h hd he
  go_enter Tryz.func78, Tryz.ntmps78
  go_wp2_with fail
  refine HT.out.mono ?_
  rintro e w1 ⟨bl, rfl, hbl, hl1, hb1⟩
  have HL1 := Lib.hid hl1
  have HB1 := Lib.hid hb1
  clear hl1 hb1
  go_wp2_with fail
  refine (HR.out w1 bl HL1.out).mono ?_
  rintro e w2 ⟨bx, bm, bt, k, rfl, hbx, hbm, hix, hl2, hu2⟩
  have hs1 := HB1.out.size
  have hbx0 : w.heap.size ≤ bx := Nat.le_trans hs1 hbx
  have hbm0 : w.heap.size ≤ bm := Nat.le_trans hs1 hbm
  have hs2 := hu2.size
  have HAP : Hid (∀ j, (freshIx bd bm bt seed rate).has bx j → ¬ Both bl (newLg bd D.starts) (D.rd k) j) := Lib.hid (fun j hj hB => by
    have h1 := HL1.out.both_lt (k := j) hB
    rcases hj with e | e | e
    · omega
    · have e' : j = bm := e; omega
    · cases e)
  have hST : StoreAt (w2.alloc (.cells #[.pointer (some ⟨bl, 0, none⟩), .pointer (some ⟨bx, 0, none⟩), .int .u64 seed] 138)) w2.heap.size (freshSt bd bl bx bm bt seed rate D.starts (D.rd k)) :=
    ⟨blk_new rfl _, hl2.below ((Below.refl _ _).alloc (Nat.le_refl _) _), hix.below ((Below.refl _ _).alloc (Nat.le_refl _) _), HAP.out,
      ⟨fun hB => by have h1 := HL1.out.both_lt (k := w2.heap.size) hB; omega, fun hX => by have := hix.has_lt hX; omega⟩, rfl⟩
  have HST := Lib.hid hST
  have HU := Lib.hid ((((Upd.of_below HB1.out).then hu2 (fun j hj => by
    rcases hj with e | e
    · rcases e with e | e
      · exact .inr (by omega)
      · cases e
    · exact .inl e)).alloc (.cells #[.pointer (some ⟨bl, 0, none⟩), .pointer (some ⟨bx, 0, none⟩), .int .u64 seed] 138)) : Upd (D.has bd) w _)
  clear hST hl2 hix hu2 hbx hbm
  go_wp2_with fail
  go_ret2
  exact ⟨w2.heap.size, bl, bx, bm, bt, k, rfl, by omega, HST.out, HU.out, hbl, hbx0, hbm0⟩
end Go.Proofs.YtamlhndibcafgaaGreatDoor
