/- Contracts of package tflog: behind, Append. -/
import Derived.Test.YtamlhndibcafgaaGreatDoorTflog6
namespace Go.Proofs.YtamlhndibcafgaaGreatDoor
open Go.RowKit Go.MapKept

/-- The first record of a log without chunks. -/
def FirstPost (b : Nat) (L : Lg) (D : Dk) (p : List UInt8) (w : World) (e : Ending) (w' : World) : Prop :=
  e = .returned (.tuple #[.int .i64 12, .int .i64 0]) ∧ ∃ fb dv sv, w.heap.size ≤ fb ∧ (∀ k, dv.ownBlock = some k → w.heap.size ≤ k) ∧ (∀ k, sv.ownBlock = some k → L.sv.ownBlock = some k ∨ w.heap.size ≤ k) ∧
    LogOn w' b (L.push sv (12 + (recL p).length)) (D.begun 0 fb dv (recL p)) ∧ Upd (Both b L D) w w'
set_option maxRecDepth 100000 in
set_option maxHeartbeats 2000000 in
theorem tflog_Append_first (b : Nat) (L : Lg) (D : Dk) (w : World) (p : List UInt8) (h : LogOn w b L D) (hlv : L.live D) (h0 : L.sizes = []) (hp : p.length ≤ 2000)
    (hf : D.find (chunkL 0) = none) (hl : D.files.length < 400) (hfa : D.fails = false) (hroom : 6000 + (12 + (recL p).length) + D.used ≤ D.cap) :
    Calls Tryz.prog 82 #[.pointer (some ⟨b, 0, none⟩), .string ⟨p.toArray⟩] w (FirstPost b L D p w) := by
  have hsync : ∀ w, LogOn w b L D → Calls Tryz.prog 135 #[.pointer (some ⟨b, 0, none⟩)] w fun e w' => e = .returned (.int .i64 0) ∧ LogOn w' b { L with sure := L.sure } D ∧ Upd (Both b L D) w w' := by
    intro w h
    refine (tflog_sync_none b L D w h h0).mono ?_
    rintro e w' ⟨rfl, rfl⟩
    exact ⟨rfl, h, Upd.refl _ _⟩
  have hrl : (recL p).length ≤ 100000 := by rw [recL_length]; omega
  have HBG := Lib.hid (fun w h => tflog_begin b L L.sure D D w 0 (recL p) h hsync (fun _ h => h) (by rw [h0]; rfl) (by omega) hlv.2.1 hf hl hfa hrl hroom (by omega))
  have HRD := Lib.hid (tflog_ready b L D w h hlv)
  have HL := Lib.hid h
  have HPUT := Lib.hid (fun w => records_Put p w hp)
  have hsv : Hid (∀ w, LogOn w b L D → ∃ a cap, w.cell? ⟨b, 3, none⟩ = some (.slice a 0 cap)) := Lib.hid (fun w h => by
    obtain ⟨a, cap, e⟩ := ownsRow_slice h.row
    rw [h0] at e
    exact ⟨a, cap, by rw [h.c3, e]; rfl⟩)
  clear h hlv h0 hsync hf hl hfa hroom hrl
  go_enter Tryz.func82, Tryz.ntmps82
  go_wp2_with fail
  refine HRD.out.mono ?_
  rintro e w1 ⟨rfl, hd1⟩
  have HL1 := Lib.hid (HL.out.below hd1.below)
  have HB1 := Lib.hid hd1.below
  clear hd1
  go_wp2_with fail
  refine (HPUT.out w1).mono ?_
  rintro e w2 ⟨rfl, hb2⟩
  have HL2 := Lib.hid (HL1.out.below hb2)
  have HB2 := Lib.hid (HB1.out.trans (hb2.mono HB1.out.size))
  clear hb2
  obtain ⟨a, cap, c3⟩ := hsv.out w2 HL2.out
  go_wp2_with fail
  refine (HBG.out w2 HL2.out).mono ?_
  rintro e w3 ⟨rfl, fb, dv, sv, hfb, hdv, hsvk, hl3, hu3⟩
  have hsz := HB2.out.size
  have HU := Lib.hid ((Upd.of_below HB2.out).then hu3 (fun _ h => .inl h))
  have HL3 := Lib.hid hl3
  clear hu3 hl3
  go_wp2_with fail
  go_ret2
  refine ⟨rfl, fb, dv, sv, Nat.le_trans hsz hfb, fun k hk => Nat.le_trans hsz (hdv k hk), fun k hk => (hsvk k hk).imp id (Nat.le_trans hsz), HL3.out, HU.out⟩
end Go.Proofs.YtamlhndibcafgaaGreatDoor
