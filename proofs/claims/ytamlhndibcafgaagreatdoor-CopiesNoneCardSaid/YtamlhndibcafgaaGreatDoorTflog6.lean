/- Contracts of package tflog: begin. -/
import Derived.Test.YtamlhndibcafgaaGreatDoorTflog5
import Derived.Deep.RegionLaw
namespace Go.Proofs.YtamlhndibcafgaaGreatDoor
open Go.RowKit Go.MapKept

theorem Upd.of_grown {w w' : World} {row : Option Nat} (h : w.grownBy w' row) : Upd (fun k => row = some k) w w' := ⟨h.os, h.tape, h.output, h.size, fun k hk hn => h.block k hk (fun e => hn e.symm)⟩
def Lg.push (L : Lg) (sv : Value) (x : Nat) : Lg := { L with sv := sv, sizes := L.sizes ++ [x] }
theorem LogOn.push {w w1 : World} {b : Nat} {L : Lg} {D : Dk} {gg cap x : Nat} {sv' : Value} (h : LogOn w b L D) (hu : Upd (fun k => L.sv.ownBlock = some k) w w1) (hv : sv' = .slice (some ⟨gg, 0, none⟩) (L.sizes.length + 1) cap)
    (hown : w1.ownsRow 0 3 1 sv' (L.sizes.length + 1) (L.sizes.map intV ++ [intV x])) (hat : L.sv.ownBlock = some gg ∨ w.heap.size ≤ gg) (hl : L.sizes.length < 200) (hx : x ≤ 1048576) :
    LogOn (w1.setCell ⟨b, 3, none⟩ sv') b (L.push sv' x) D := by
  have hob : sv'.ownBlock = some gg := by rw [hv]; rfl
  have hgb : gg ≠ b := by
    rintro rfl
    rcases hat with e | e
    · exact h.self e
    · have := blk_lt h.blk; omega
  have hgd : ¬ D.has L.bd gg := by
    intro hd
    rcases hat with e | e
    · exact h.apart gg (.inr e) hd
    · have := h.disk.has_lt hd; omega
  have hu2 : Upd (· = b) w1 (w1.setCell ⟨b, 3, none⟩ sv') := Upd.setCell (S := (· = b)) (Upd.refl _ _) (.inl rfl) _
  have hrow : w1.ownsRow 0 3 1 sv' (L.sizes ++ [x]).length ((L.sizes ++ [x]).map intV) := by simpa using hown
  refine ⟨?_, ownsRow_upd hrow hu2 (fun k hk e => hgb (by have hk' : sv'.ownBlock = some k := hk; rw [hob] at hk'; cases hk'; exact e)), ?_, ?_, ?_, ?_, ?_⟩
  · exact block_setCell (hu.kept h.blk h.self) _
  · exact (h.disk.kept hu (fun k hk e => h.apart k (.inr e) hk)).kept hu2 (fun k hk e => h.apart k (.inl e) hk)
  · rintro k (rfl | hk) hd
    · exact h.apart k (.inl rfl) hd
    · have hk' : sv'.ownBlock = some k := hk
      rw [hob] at hk'; cases hk'; exact hgd hd
  · show sv'.ownBlock ≠ some b
    rw [hob]; intro e; cases e; exact hgb rfl
  · refine ⟨?_, h.small.2⟩
    show (L.sizes ++ [x]).length ≤ 200
    simp; omega
  · intro y hy
    have hy' : y ∈ L.sizes ++ [x] := hy
    rw [List.mem_append, List.mem_singleton] at hy'
    rcases hy' with hy' | rfl
    · exact h.each y hy'
    · exact hx

theorem ret_pair {a b : Int} (h : a = b) : Ending.returned (.tuple #[.int .i64 a, .int .i64 0]) = .returned (.tuple #[.int .i64 b, .int .i64 0]) := by rw [h]
/-- A log that began a chunk. -/
def BeginPost (b : Nat) (L : Lg) (s1 : Nat) (D D1 : Dk) (n : Nat) (r : List UInt8) (w : World) (e : Ending) (w' : World) : Prop :=
  e = .returned (.tuple #[.int .i64 (n * 4096 + 12 : Nat), .int .i64 0]) ∧ ∃ fb dv sv, w.heap.size ≤ fb ∧ (∀ k, dv.ownBlock = some k → w.heap.size ≤ k) ∧ (∀ k, sv.ownBlock = some k → L.sv.ownBlock = some k ∨ w.heap.size ≤ k) ∧
    LogOn w' b ({ L with sure := s1 }.push sv (12 + r.length)) (D1.begun n fb dv r) ∧ Upd (Both b L D) w w'
set_option maxRecDepth 100000 in
set_option maxHeartbeats 2000000 in
theorem tflog_begin (b : Nat) (L : Lg) (s1 : Nat) (D D1 : Dk) (w : World) (n : Nat) (r : List UInt8) (hlog : LogOn w b L D)
    (hsync : ∀ w, LogOn w b L D → Calls Tryz.prog 135 #[.pointer (some ⟨b, 0, none⟩)] w fun e w' => e = .returned (.int .i64 0) ∧ LogOn w' b { L with sure := s1 } D1 ∧ Upd (Both b L D) w w')
    (hh1 : ∀ k, D1.has L.bd k → D.has L.bd k) (hn : n = L.sizes.length) (hn2 : n < 200) (hd : D1.down = false) (hf : D1.find (chunkL n) = none) (hl : D1.files.length < 400) (hfa : D1.fails = false) (hr : r.length ≤ 100000)
    (hroom : 6000 + (12 + r.length) + D.used ≤ D.cap) (hroom1 : 12 + r.length ≤ D1.cap - D1.used) :
    Calls Tryz.prog 119 #[.pointer (some ⟨b, 0, none⟩), .int .i64 n, .string ⟨r.toArray⟩] w (BeginPost b L s1 D D1 n r w) := by
  have HL := Lib.hid hlog
  have HS := Lib.hid hsync
  have H1 := Lib.hid hh1
  have hbl : ∀ k, Both b L D k → k < w.heap.size := fun k hk => hk.elim (fun e => hlog.has_lt e) (fun e => hlog.disk.has_lt e)
  have HB := Lib.hid hbl
  have hrm : decide (6000 + (12 + r.length) + D.used ≤ D.cap) = true := decide_eq_true hroom
  have HRM := Lib.hid hrm
  have HN := Lib.hid hn
  have hlen := hlog.small.1
  have hb3 : Below w.heap.size w (((w.alloc (.cells #[.pointer (some ⟨b, 0, none⟩)] 135)).alloc (.cells #[.int .i64 n] 3)).alloc (.cells #[.string ⟨r.toArray⟩] 9)) :=
    (((Below.refl _ w).alloc (Nat.le_refl _) _).alloc (by simp) _).alloc (by simp; omega) _
  have hx3 : Boxes (((w.alloc (.cells #[.pointer (some ⟨b, 0, none⟩)] 135)).alloc (.cells #[.int .i64 n] 3)).alloc (.cells #[.string ⟨r.toArray⟩] 9)) b L D w.heap.size (w.heap.size + 1) (w.heap.size + 1 + 1) n r :=
    ⟨blk_alloc (blk_alloc (blk_new rfl _)), blk_alloc (blk_new (by simp) _), blk_new (by simp) _, fun k hk hB => by have := hbl k hB; omega⟩
  obtain ⟨W3, hW3⟩ : ∃ W3, (((w.alloc (.cells #[.pointer (some ⟨b, 0, none⟩)] 135)).alloc (.cells #[.int .i64 n] 3)).alloc (.cells #[.string ⟨r.toArray⟩] 9)) = W3 := ⟨_, rfl⟩
  have hs3 : W3.heap.size = w.heap.size + 3 := by rw [← hW3]; simp
  rw [hW3] at hb3 hx3
  have HL3 := Lib.hid (hlog.below hb3)
  have hr3 := tflog_room b L D W3 (12 + r.length) HL3.out (by omega)
  rw [hrm, show ((12 + r.length : Nat) : Int) = 12 + (r.length : Int) by omega] at hr3
  have HR3 := Lib.hid hr3
  have HX3 := Lib.hid hx3
  have HB3 := Lib.hid hb3
  have HW3 := Lib.hid hW3
  have HS3 := Lib.hid hs3
  clear hlog hsync hh1 hbl hrm hroom hn hr3 hx3 hb3 hW3 hs3 HRM
  go_enter Tryz.func119, Tryz.ntmps119
  go_wp2_with fail
  rw [HW3.out]
  refine HR3.out.mono ?_
  rintro e w4 ⟨rfl, q, rfl⟩
  have HX4 := Lib.hid (HX3.out.below (below_drewN (Below.refl _ _) q))
  have HL4 := Lib.hid (HL3.out.below (below_drewN (Below.refl _ _) q))
  have hz4 : (W3.drewN q).heap.size = w.heap.size + 3 := HS3.out
  have HZ4 := Lib.hid hz4
  have HB4 := Lib.hid (HB3.out.trans (below_drewN (Below.refl _ _) q))
  generalize W3.drewN q = w4 at *
  clear hz4
  have c0 := HX4.out.cl
  obtain ⟨i0, hi0, hz0, hz1, hz2⟩ := info_parts Tryz.infoInt
  have I0 := Lib.hid hi0; have I1 := Lib.hid hz0; have I2 := Lib.hid hz1; have I3 := Lib.hid hz2
  clear hi0 hz0 hz1 hz2
  go_wp2_with fail
  refine (all_begin b L s1 D D1 _ w4.heap.size w.heap.size (w.heap.size + 1) (w.heap.size + 1 + 1) n r (HX4.out.below ((Below.refl _ _).alloc (Nat.le_refl _) _)) (blk_new rfl _) (fun hB => by have := HB.out _ hB; have := HZ4.out; omega)
    (HS.out _ (HL4.out.below ((Below.refl _ _).alloc (Nat.le_refl _) _))) H1.out hn2 hd hf hl hfa (by omega) hroom1).mono ?_
  rintro e w6 ⟨rfl, fb, dv, hfb, hdv, hl6, hu6⟩
  have HX6 := Lib.hid ((HX4.out.below ((Below.refl _ _).alloc (Nat.le_refl _) _)).kept hu6 (fun _ h => h))
  have HL6 := Lib.hid hl6
  have HU6 := Lib.hid (((Upd.of_below (HB4.out)).alloc _).then hu6 (fun _ h => .inl h) : Upd (Both b L D) w w6)
  have HDV := Lib.hid hdv
  have HFB := Lib.hid hfb
  have x0 := HX6.out.cl
  have x2 := HX6.out.cr
  have x3 := HL6.out.c3
  clear hl6 hu6 hdv hfb c0
  have HOWN := Lib.hid HL6.out.row
  have hblk6 := HL6.out.blk
  have hne6 := HL6.out.self
  have hlt6 := blk_lt hblk6
  have e1 : IntKind.i64.wrap (12 + (r.length : Int)) = 12 + r.length := IntWalk.i64_in _ (by omega)
  have hl1 : L.sizes.length + 1 ≤ 201 := by omega
  go_wp2_with fail
  have hxa := HX6.out.below ((Below.refl w6.heap.size w6).alloc (Nat.le_refl _) (.cells #[.int .i64 (12 + r.length)] 3))
  have y0 := hxa.cl
  have y2 := hxa.cr
  have y3 := (HL6.out.below ((Below.refl w6.heap.size w6).alloc (Nat.le_refl _) (.cells #[.int .i64 (12 + r.length)] 3))).c3
  clear hxa
  have hne0 : L.sv.ownBlock ≠ some w.heap.size := fun e => HX6.out.apart _ (.inl rfl) (.inl (.inr e))
  have hlt0 := blk_lt HX6.out.l
  go_region_law
    ((refine step_append_lies _ (by rfl) _ _ _ (by rfl) 0 3 i0 (.int .i64 0) 1 8 Tryz.underlying41 I0.out I1.out I2.out I3.out rfl (by omega) L.sv L.sizes.length (L.sizes.map intV) (by rfl) ((HOWN.out.alloc _).drew)
        ⟨w6.heap.size, 0, none⟩ 1 1 [.int .i64 (12 + r.length)] (by rfl) (by rfl) (World.news_of_block (cs := #[.int .i64 (12 + r.length)]) (t := 3) (fr := (0, 0)) (heap_alloc_new w6 _)) (by simp [Value.oneCell'])
        (by omega) (by unfold maxLen; omega) (by omega) (by simp) (w6.heap.size + 1) (by simp) ?_; intro gg cap w7 hown7 hgrow hat hlt; have hk7 := (hgrow.block b (show b < (w6.alloc (.cells #[.int .i64 (12 + r.length)] 3)).heap.size by simp; omega) (fun e => hne6 e.symm)).trans (blk_alloc hblk6); have c37 : w7.cell? ⟨b, 3, none⟩ = some L.sv := (cell_of_block (i := 3) hk7).trans rfl; have f37 := frozen_of_block (i := 3) hk7; have hx7 := (hgrow.block w.heap.size (show w.heap.size < (w6.alloc (.cells #[.int .i64 (12 + r.length)] 3)).heap.size by simp; omega) (fun e => hne0 e.symm)).trans (blk_alloc HX6.out.l); have c07 : w7.cell? ⟨w.heap.size, 0, none⟩ = some (.pointer (some ⟨b, 0, none⟩)) := (cell_of_block (i := 0) hx7).trans rfl))
  all_goals
    clear x0 x2 x3 y0 y2 y3 e1 c37 f37 c07
    have hu7 : Upd (fun k => L.sv.ownBlock = some k) w6 w7 :=
      (Upd.of_below ((Below.refl w6.heap.size w6).alloc (Nat.le_refl _) (.cells #[.int .i64 (12 + r.length)] 3)).drew).then (Upd.of_grown hgrow) (fun j hj => .inl hj)
    have hown8 : w7.ownsRow 0 3 1 (.slice (some ⟨gg, 0, none⟩) (L.sizes.length + 1) cap) (L.sizes.length + 1) (L.sizes.map intV ++ [intV (12 + r.length)]) := by
      have := hown7
      rwa [show (12 + (r.length : Int)) = ((12 + r.length : Nat) : Int) by omega] at this
    have HW := Lib.hid (HL6.out.push (x := 12 + r.length) hu7 rfl hown8 (hat.imp id (fun e => by omega)) (by have := HN.out; show L.sizes.length < 200; omega) (by omega))
    have hx7n := Below.heap_setCell w7 ⟨b, 3, none⟩ (.slice (some ⟨gg, 0, none⟩) (L.sizes.length + 1) cap) (w.heap.size + 1) (fun e => HX6.out.apart _ (.inr (.inl rfl)) (.inl (.inl e)))
    have cn7 : (w7.setCell ⟨b, 3, none⟩ (.slice (some ⟨gg, 0, none⟩) (L.sizes.length + 1) cap)).cell? ⟨w.heap.size + 1, 0, none⟩ = some (.int .i64 n) := by
      rw [cell_of_block (hx7n.trans (hu7.kept HX6.out.n (fun e => HX6.out.apart _ (.inr (.inl rfl)) (.inl (.inr e)))))]; rfl
    have HU7 := Lib.hid ((HU6.out.then hu7 (fun j hj => .inl (.inl (.inr hj)))).setCell (p := ⟨b, 3, none⟩) (.inl (.inl (.inl rfl))) (.slice (some ⟨gg, 0, none⟩) (L.sizes.length + 1) cap))
    have HAT := Lib.hid hat
    clear hgrow hat hown7 hown8 hu7 hk7 hx7 hlt hx7n
    go_wp2_with fail
    go_ret2
    refine ⟨ret_pair (by omega), fb, dv, _, ?_, ?_, ?_, HW.out, HU7.out⟩
    · have h1 := HFB.out; have h2 := HZ4.out; rw [World.size_alloc] at h1; omega
    · intro k hk
      have h1 := HDV.out k hk; have h2 := HZ4.out; rw [World.size_alloc] at h1; omega
    · intro k hk
      have h2 := HU6.out.size
      have hk' : some gg = some k := hk
      cases hk'
      rcases HAT.out with e | e
      · exact .inl e
      · exact .inr (by omega)
end Go.Proofs.YtamlhndibcafgaaGreatDoor
