/- Contracts of package tflog: all (of begin's steps), begin. -/
import Derived.Test.YtamlhndibcafgaaGreatDoorTflog4
namespace Go.Proofs.YtamlhndibcafgaaGreatDoor
open Go.RowKit Go.MapKept

theorem Boxes.turn {w : World} {b : Nat} {L L' : Lg} {D D' : Dk} {Bl Bn Br n : Nat} {r : List UInt8} (h : Boxes w b L D Bl Bn Br n r) (hh : ∀ k, Both b L' D' k → Both b L D k) : Boxes w b L' D' Bl Bn Br n r :=
  ⟨h.l, h.n, h.r, fun k hk hB => h.apart k hk (hh k hB)⟩
theorem find_add {D : Dk} {n : List UInt8} {fb : Nat} (h : D.find n = none) : (D.add n fb).find n = some (newFl n fb D.clk) := by
  unfold Dk.find at h ⊢
  simp [Dk.add, List.find?_append, h, newFl]
/-- The disk behind begin. -/
def Dk.begun (D1 : Dk) (n fb : Nat) (dv : Value) (r : List UInt8) : Dk :=
  ({ D1.step.add (chunkL n) fb with used := D1.used + (headL n ++ r).length }.upd ((newFl (chunkL n) fb D1.clk).more dv (headL n ++ r))).step
def BegunPost (b : Nat) (L : Lg) (s1 : Nat) (D D1 : Dk) (n : Nat) (r : List UInt8) (w : World) (e : Ending) (w' : World) : Prop :=
  e = .returned (.int .i64 0) ∧ ∃ fb dv, w.heap.size ≤ fb ∧ (∀ k, dv.ownBlock = some k → w.heap.size ≤ k) ∧ LogOn w' b { L with sure := s1 } (D1.begun n fb dv r) ∧ Upd (Both b L D) w w'
set_option maxRecDepth 100000 in
set_option maxHeartbeats 1000000 in
theorem all_begin (b : Nat) (L : Lg) (s1 : Nat) (D D1 : Dk) (w : World) (B Bl Bn Br n : Nat) (r : List UInt8) (hx : Boxes w b L D Bl Bn Br n r)
    (hB : w.heap[B]? = some (.cells #[.func (.func 135) #[.pointer (some ⟨b, 0, none⟩)] #[], .func (.func 163) #[] #[.pointer (some ⟨Bl, 0, none⟩), .pointer (some ⟨Bn, 0, none⟩)],
      .func (.func 165) #[] #[.pointer (some ⟨Bl, 0, none⟩), .pointer (some ⟨Bn, 0, none⟩), .pointer (some ⟨Br, 0, none⟩)]] 63))
    (hBa : ¬ Both b L D B)
    (hsync : Calls Tryz.prog 135 #[.pointer (some ⟨b, 0, none⟩)] w fun e w' => e = .returned (.int .i64 0) ∧ LogOn w' b { L with sure := s1 } D1 ∧ Upd (Both b L D) w w')
    (hh1 : ∀ k, D1.has L.bd k → D.has L.bd k) (hn : n < 200) (hd : D1.down = false) (hf : D1.find (chunkL n) = none) (hl : D1.files.length < 400) (hfa : D1.fails = false) (hr : r.length ≤ 1048576) (hroom : 12 + r.length ≤ D1.cap - D1.used) :
    Calls Tryz.prog 162 #[.slice (some ⟨B, 0, none⟩) 3 3] w (BegunPost b L s1 D D1 n r w) := by
  have hlt := blk_lt hB
  have hxl := blk_lt hx.l
  have hxn := blk_lt hx.n
  have hxr := blk_lt hx.r
  have hcells : Hid (∀ w' (S : Nat → Prop), Upd S w w' → (∀ k, S k → Both b L D k) → w'.heap[B]? = some (.cells #[.func (.func 135) #[.pointer (some ⟨b, 0, none⟩)] #[], .func (.func 163) #[] #[.pointer (some ⟨Bl, 0, none⟩), .pointer (some ⟨Bn, 0, none⟩)],
      .func (.func 165) #[] #[.pointer (some ⟨Bl, 0, none⟩), .pointer (some ⟨Bn, 0, none⟩), .pointer (some ⟨Br, 0, none⟩)]] 63)) :=
    Lib.hid (fun w' S hu hS => hu.kept hB (fun e => hBa (hS _ e)))
  have HX := Lib.hid hx
  have HSY := Lib.hid hsync
  have H1 := Lib.hid hh1
  clear hx hsync hh1 hB hBa
  go_enter Tryz.func162, Tryz.ntmps162
  go_wp2_with fail
  go_loopw [8] (fun i wr => (i = .int .i64 0 ∧ wr = w) ∨ (i = .int .i64 1 ∧ LogOn wr b { L with sure := s1 } D1 ∧ Upd (Both b L D) w wr)
      ∨ (i = .int .i64 2 ∧ ∃ fb, w.heap.size ≤ fb ∧ LogOn wr b { L with sure := s1 } (D1.step.add (chunkL n) fb) ∧ Upd (Both b L D) w wr)
      ∨ (i = .int .i64 3 ∧ BegunPost b L s1 D D1 n r w (.returned (.int .i64 0)) wr)) (fun i _ => 3 - (intOf i).toNat)
  case atStart => exact .inl ⟨rfl, rfl⟩
  case round =>
    rcases hrel with ⟨rfl, rfl⟩ | ⟨rfl, hl1, hu1⟩ | ⟨rfl, fb, hfb, hl2, hu2⟩ | ⟨rfl, hp⟩
    · have hB := hcells.out _ _ (Upd.refl (fun _ => False) wr) (fun _ h => h.elim)
      have c0 : wr.cell? ⟨B, 0, none⟩ = some (.func (.func 135) #[.pointer (some ⟨b, 0, none⟩)] #[]) := by rw [cell_of_block hB]; rfl
      clear hB
      go_wp2_with fail
      refine HSY.out.mono ?_
      rintro e w1 ⟨rfl, hl1, hu1⟩
      go_wp2_with fail
      go_roundw
      case rel => exact .inr (.inl ⟨by go_num, hl1, hu1⟩)
      case measure => simp [intOf]
    · have hB := hcells.out _ _ hu1 (fun _ h => h)
      have c1 : wr.cell? ⟨B, 1, none⟩ = some (.func (.func 163) #[] #[.pointer (some ⟨Bl, 0, none⟩), .pointer (some ⟨Bn, 0, none⟩)]) := by rw [cell_of_block hB]; rfl
      have HX1 := Lib.hid (HX.out.kept hu1 (fun _ h => h))
      have HX2 := Lib.hid (HX1.out.turn (L' := { L with sure := s1 }) (D' := D1) (fun k hk => hk.elim .inl (fun e => .inr (H1.out k e))))
      have HL1 := Lib.hid hl1
      have HU1 := Lib.hid hu1
      clear hB hl1 hu1
      go_wp2_with fail
      refine (begin1 b { L with sure := s1 } D1 wr Bl Bn Br n r HL1.out HX2.out hn hd hf hl (.inl hfa)).mono ?_
      rintro e w1 ⟨rfl, fb, hfb, hl2, hu2⟩
      have hsz := HU1.out.size
      have hu3 := HU1.out.then hu2 (fun j hj => .inl (.inr (H1.out j hj)))
      go_wp2_with fail
      go_roundw
      case rel => exact .inr (.inr (.inl ⟨by go_num, fb, Nat.le_trans hsz hfb, hl2, hu3⟩))
      case measure => simp [intOf]
    · have hB := hcells.out _ _ hu2 (fun _ h => h)
      have c2 : wr.cell? ⟨B, 2, none⟩ = some (.func (.func 165) #[] #[.pointer (some ⟨Bl, 0, none⟩), .pointer (some ⟨Bn, 0, none⟩), .pointer (some ⟨Br, 0, none⟩)]) := by rw [cell_of_block hB]; rfl
      have HX1 := Lib.hid (HX.out.kept hu2 (fun _ h => h))
      have HX2 := Lib.hid (HX1.out.turn (L' := { L with sure := s1 }) (D' := D1) (fun k hk => hk.elim .inl (fun e => .inr (H1.out k e))))
      have HF := Lib.hid (find_add (D := D1.step) (n := chunkL n) (fb := fb) hf)
      have HL1 := Lib.hid hl2
      have HU1 := Lib.hid hu2
      clear hB hl2 hu2
      go_wp2_with fail
      refine (begin2 b { L with sure := s1 } D1 (D1.step.add (chunkL n) fb) wr Bl Bn Br n r _ HL1.out HX2.out hn hd HF.out (.inl hfa) hr hroom (fun k hk => (has_add hk).imp (fun e => e) (fun e => by subst e; omega))).mono ?_
      rintro e w1 ⟨rfl, dv, hdv, hl3, hu3⟩
      have hsz := HU1.out.size
      have hu4 := HU1.out.then hu3 (fun j hj => by
        rcases has_add hj with e | e
        · exact .inl (.inr (H1.out j e))
        · exact .inr (by omega))
      have HP : Hid (BegunPost b L s1 D D1 n r w (.returned (.int .i64 0)) w1) := Lib.hid ⟨rfl, fb, dv, hfb, fun k hk => by
        rcases hdv k hk with e | e
        · cases e
        · omega, hl3, hu4⟩
      clear hl3 hu3 hu4 hdv
      go_wp2_with fail
      go_roundw
      case rel => exact .inr (.inr (.inr ⟨by go_num, HP.out⟩))
      case measure => simp [intOf]
    · have HP := Lib.hid hp
      clear hp
      go_wp2_with fail
      go_ret
      exact HP.out
end Go.Proofs.YtamlhndibcafgaaGreatDoor
