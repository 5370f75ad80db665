/- Contracts of package tflog: begin's steps. -/
import Derived.Test.YtamlhndibcafgaaGreatDoorTflog3
namespace Go.Proofs.YtamlhndibcafgaaGreatDoor
open Go.RowKit Go.MapKept

/-- What a closure of begin reads: the log's pointer, a number, a text, in boxes of their own. -/
structure Boxes (w : World) (b : Nat) (L : Lg) (D : Dk) (Bl Bn Br n : Nat) (r : List UInt8) : Prop where
  l : w.heap[Bl]? = some (.cells #[.pointer (some ⟨b, 0, none⟩)] 135)
  n : w.heap[Bn]? = some (.cells #[.int .i64 n] 3)
  r : w.heap[Br]? = some (.cells #[.string ⟨r.toArray⟩] 9)
  apart : ∀ k, k = Bl ∨ k = Bn ∨ k = Br → ¬ Both b L D k
theorem Boxes.kept {w w' : World} {b : Nat} {L : Lg} {D : Dk} {Bl Bn Br n : Nat} {r : List UInt8} {S : Nat → Prop} (h : Boxes w b L D Bl Bn Br n r) (hu : Upd S w w') (hS : ∀ k, S k → Both b L D k) : Boxes w' b L D Bl Bn Br n r :=
  ⟨hu.kept h.l (fun e => h.apart _ (.inl rfl) (hS _ e)), hu.kept h.n (fun e => h.apart _ (.inr (.inl rfl)) (hS _ e)), hu.kept h.r (fun e => h.apart _ (.inr (.inr rfl)) (hS _ e)), h.apart⟩
theorem Boxes.below {w w' : World} {b : Nat} {L : Lg} {D : Dk} {Bl Bn Br n : Nat} {r : List UInt8} (h : Boxes w b L D Bl Bn Br n r) (hb : Below w.heap.size w w') : Boxes w' b L D Bl Bn Br n r :=
  h.kept (S := fun _ => False) (Upd.of_below hb) (fun _ e => e.elim)
theorem Boxes.drew {w : World} {b : Nat} {L : Lg} {D : Dk} {Bl Bn Br n : Nat} {r : List UInt8} (h : Boxes w b L D Bl Bn Br n r) : Boxes w.drew b L D Bl Bn Br n r := h.below (Below.refl _ _).drew
theorem Boxes.cl {w : World} {b : Nat} {L : Lg} {D : Dk} {Bl Bn Br n : Nat} {r : List UInt8} (h : Boxes w b L D Bl Bn Br n r) : w.cell? ⟨Bl, 0, none⟩ = some (.pointer (some ⟨b, 0, none⟩)) := by rw [cell_of_block h.l]; rfl
theorem Boxes.cn {w : World} {b : Nat} {L : Lg} {D : Dk} {Bl Bn Br n : Nat} {r : List UInt8} (h : Boxes w b L D Bl Bn Br n r) : w.cell? ⟨Bn, 0, none⟩ = some (.int .i64 n) := by rw [cell_of_block h.n]; rfl
theorem Boxes.cr {w : World} {b : Nat} {L : Lg} {D : Dk} {Bl Bn Br n : Nat} {r : List UInt8} (h : Boxes w b L D Bl Bn Br n r) : w.cell? ⟨Br, 0, none⟩ = some (.string ⟨r.toArray⟩) := by rw [cell_of_block h.r]; rfl
/-- All cells that begin's steps load. -/
def Held (w : World) (b bd Bl Bn Br n : Nat) (r : List UInt8) : Prop :=
  w.cell? ⟨b, 0, none⟩ = some (.pointer (some ⟨bd, 0, none⟩)) ∧ w.cell? ⟨Bl, 0, none⟩ = some (.pointer (some ⟨b, 0, none⟩)) ∧ w.cell? ⟨Bn, 0, none⟩ = some (.int .i64 n) ∧ w.cell? ⟨Br, 0, none⟩ = some (.string ⟨r.toArray⟩)
theorem held_of {w : World} {b : Nat} {L : Lg} {D D' : Dk} {Bl Bn Br n : Nat} {r : List UInt8} (h : LogOn w b L D) (hx : Boxes w b L D' Bl Bn Br n r) : Held w b L.bd Bl Bn Br n r := ⟨h.c0, hx.cl, hx.cn, hx.cr⟩
theorem nameB_chunk (n : Nat) : nameB (chunkL n) = true := by unfold nameB chunkL; simp [fileL]
set_option maxRecDepth 100000 in
set_option maxHeartbeats 1000000 in
theorem begin1 (b : Nat) (L : Lg) (D : Dk) (w : World) (Bl Bn Br n : Nat) (r : List UInt8) (h : LogOn w b L D) (hx : Boxes w b L D Bl Bn Br n r) (hn : n < 200) (hd : D.down = false) (hf : D.find (chunkL n) = none) (hl : D.files.length < 400) (hfi : D.fine) :
    Calls Tryz.prog 163 #[.pointer (some ⟨Bl, 0, none⟩), .pointer (some ⟨Bn, 0, none⟩)] w (OnNewPost b L D (chunkL n) w) := by
  obtain ⟨c0, cl, cn, cr⟩ := held_of h hx
  have HL := Lib.hid h
  have HX := Lib.hid hx
  have HN := Lib.hid (nameB_chunk n)
  clear h hx cr
  go_enter Tryz.func163, Tryz.ntmps163
  go_wp2_with fail
  go_region_held3 (fun w' => w'.cell? ⟨b, 0, none⟩ = some (.pointer (some ⟨L.bd, 0, none⟩)) ∧ w'.cell? ⟨Bl, 0, none⟩ = some (.pointer (some ⟨b, 0, none⟩)) ∧ w'.cell? ⟨Bn, 0, none⟩ = some (.int .i64 n))
    (first | exact ⟨c0, cl, cn⟩ | exact ⟨(HL.out.drew.below hb).c0, (HX.out.drew.below hb).cl, (HX.out.drew.below hb).cn⟩ | exact ⟨hl3.c0, hx3.cl, hx3.cn⟩)
    ((first | (go_at_call 130; refine (names_Chunk n _ (by omega)).mono ?_; rintro e w' ⟨rfl, hb⟩)
            | (go_at_call 164; refine (on_Create b L D _ (chunkL n) (HL.out.drew.below hb) hd hf HN.out hl hfi).mono ?_; rintro e w3 ⟨rfl, fb, hfb, hl3, hu3⟩; have hx3 := (HX.out.drew.below hb).kept hu3 (fun _ e => .inr e))))
  have hsz := hb.size
  go_wp2_with fail
  go_ret
  exact ⟨rfl, fb, Nat.le_trans hsz hfb, hl3, (Upd.refl (D.has L.bd) w).then ((Upd.of_below ((Below.refl _ _).drew.trans hb)).then hu3 (fun _ h => .inl h)) (fun _ h => .inl h)⟩
set_option maxRecDepth 100000 in
set_option maxHeartbeats 1000000 in
theorem begin2 (b : Nat) (L : Lg) (D0 D : Dk) (w : World) (Bl Bn Br n : Nat) (r : List UInt8) (f : Fl) (h : LogOn w b L D) (hx : Boxes w b L D0 Bl Bn Br n r) (hn : n < 200) (hd : D.down = false) (hf : D.find (chunkL n) = some f) (hfi : D.fine) (hr : r.length ≤ 1048576) (hroom : 12 + r.length ≤ D.cap - D.used)
    (hh : ∀ k, D.has L.bd k → D0.has L.bd k ∨ (k ≠ Bl ∧ k ≠ Bn ∧ k ≠ Br)) :
    Calls Tryz.prog 165 #[.pointer (some ⟨Bl, 0, none⟩), .pointer (some ⟨Bn, 0, none⟩), .pointer (some ⟨Br, 0, none⟩)] w (OnAppPost b L D f (headL n ++ r) w) := by
  have hx' : Boxes w b L D Bl Bn Br n r := ⟨hx.l, hx.n, hx.r, fun k hk hB => by
    rcases hB with e | e
    · exact hx.apart k hk (.inl e)
    · rcases hh k e with e' | ⟨h1, h2, h3⟩
      · exact hx.apart k hk (.inr e')
      · rcases hk with rfl | rfl | rfl
        · exact h1 rfl
        · exact h2 rfl
        · exact h3 rfl⟩
  obtain ⟨c0, cl, cn, cr⟩ := held_of h hx'
  have HL := Lib.hid h
  have HX := Lib.hid hx'
  have HR : Hid ((headL n ++ r).length ≤ D.cap - D.used) := Lib.hid (by simpa using hroom)
  have hl1 : ¬ 9223372036854775807 < (headL n ++ r).length := by simp; omega
  have hl2 : ¬ 9223372036854775807 < (headL n).length + r.length := by simp; omega
  have hl3 : ¬ 9223372036854775807 < 12 + r.length := by omega
  clear h hx hx' hh hroom
  go_enter Tryz.func165, Tryz.ntmps165
  go_wp2_with fail
  go_region_held3 (fun w' => w'.cell? ⟨b, 0, none⟩ = some (.pointer (some ⟨L.bd, 0, none⟩)) ∧ w'.cell? ⟨Bl, 0, none⟩ = some (.pointer (some ⟨b, 0, none⟩)) ∧ w'.cell? ⟨Bn, 0, none⟩ = some (.int .i64 n) ∧ w'.cell? ⟨Br, 0, none⟩ = some (.string ⟨r.toArray⟩))
    (first | exact ⟨c0, cl, cn, cr⟩ | exact ⟨hl3.c0, hx3.cl, hx3.cn, hx3.cr⟩ | exact ⟨((HL.out.drew.below hb).below hb2).c0, ((HX.out.drew.below hb).below hb2).cl, ((HX.out.drew.below hb).below hb2).cn, ((HX.out.drew.below hb).below hb2).cr⟩ | exact ⟨(HL.out.drew.below hb).c0, (HX.out.drew.below hb).cl, (HX.out.drew.below hb).cn, (HX.out.drew.below hb).cr⟩)
    ((first | (go_at_call 130; refine (names_Chunk n _ (by omega)).mono ?_; rintro e w' ⟨rfl, hb⟩)
            | (go_at_call 166; refine (chunks_Head n _ hn).mono ?_; rintro e w2 ⟨rfl, hb2⟩)
            | (go_at_call 161; refine (on_Append b L D _ (chunkL n) (headL n ++ r) f ((HL.out.drew.below hb).below hb2) hd hf hfi HR.out).mono ?_; rintro e w3 ⟨rfl, dv, hdv, hl3, hu3⟩; have hx3 := ((HX.out.drew.below hb).below hb2).kept hu3 (fun _ e => .inr e))))
  have hsz := Nat.le_trans hb.size hb2.size
  go_wp2_with fail
  go_ret
  have hsz1 := hb.size
  refine ⟨rfl, dv, fun k hk => ?_, hl3, (Upd.refl (D.has L.bd) w).then ((Upd.of_below (((Below.refl _ _).drew.trans hb).trans (hb2.mono hsz1))).then hu3 (fun _ h => .inl h)) (fun _ h => .inl h)⟩
  rcases hdv k hk with e | e
  · exact .inl e
  · exact .inr (Nat.le_trans hsz e)
end Go.Proofs.YtamlhndibcafgaaGreatDoor
