/- An index without tables in memory; contracts of index.Open, none, Manifest. -/
import Derived.Test.YtamlhndibcafgaaGreatDoorIdx1
namespace Go.Proofs.YtamlhndibcafgaaGreatDoor
open Go.RowKit Go.MapKept

/-- An entry. -/
structure En where
  h : Nat
  v : Nat
  p : Nat
deriving DecidableEq
def En.row (e : En) : List Value := [.int .u64 e.h, .int .i64 e.v, .int .i64 e.p]
def En.val (e : En) : Value := .agg #[.int .u64 e.h, .int .i64 e.v, .int .i64 e.p]
def rowsE (l : List En) : List Value := (l.map En.row).flatten
/-- An index without tables: its disk, the block of its memory, of its map; its seed, rate; the entries' slice, the entries. -/
structure Ix where
  bd : Nat
  bm : Nat
  bt : Nat
  seed : Nat
  rate : Nat
  mv : Value
  ents : List En
def Ix.cells (X : Ix) : Array Value := #[.pointer (some ⟨X.bd, 0, none⟩), .int .i64 0, .int .i64 0, .int .u64 X.seed, .slice none 0 0, .float .f64 X.rate, .pointer (some ⟨X.bm, 0, none⟩), .map (some X.bt)]
def Ix.has (b : Nat) (X : Ix) (k : Nat) : Prop := k = b ∨ k = X.bm ∨ X.mv.ownBlock = some k
structure IxAt (w : World) (b : Nat) (X : Ix) : Prop where
  blk : w.heap[b]? = some (.cells X.cells 188)
  mem : w.heap[X.bm]? = some (.cells #[.bool true, X.mv] 232)
  row : w.ownsRow 0 142 3 X.mv X.ents.length (rowsE X.ents)
  ne : b ≠ X.bm
  self : X.mv.ownBlock ≠ some b ∧ X.mv.ownBlock ≠ some X.bm
  many : X.ents.length ≤ 1000000
  each : ∀ e ∈ X.ents, e.h < 18446744073709551616 ∧ e.v ≤ 1073741824 ∧ e.p ≤ 100000000
theorem IxAt.has_lt {w : World} {b : Nat} {X : Ix} (h : IxAt w b X) {k : Nat} (hk : X.has b k) : k < w.heap.size := by
  rcases hk with rfl | rfl | hk
  · exact blk_lt h.blk
  · exact blk_lt h.mem
  · exact ownsRow_lt h.row hk
theorem IxAt.kept {S : Nat → Prop} {w w' : World} {b : Nat} {X : Ix} (h : IxAt w b X) (hu : Upd S w w') (hn : ∀ k, X.has b k → ¬ S k) : IxAt w' b X where
  blk := hu.kept h.blk (hn _ (.inl rfl))
  mem := hu.kept h.mem (hn _ (.inr (.inl rfl)))
  row := ownsRow_upd h.row hu (fun _ hk => hn _ (.inr (.inr hk)))
  ne := h.ne
  self := h.self
  many := h.many
  each := h.each
theorem IxAt.below {w w' : World} {b : Nat} {X : Ix} (h : IxAt w b X) (hu : Below w.heap.size w w') : IxAt w' b X :=
  h.kept (S := fun _ => False) (Upd.of_below hu) (fun _ _ h => h)
theorem index_none (b : Nat) (X : Ix) (w : World) (h : IxAt w b X) :
    Calls Tryz.prog 121 #[.pointer (some ⟨b, 0, none⟩)] w fun e w' => e = .returned (.bool false) ∧ w = w' := by
  have c6 : w.cell? ⟨b, 6, none⟩ = some (.pointer (some ⟨X.bm, 0, none⟩)) := by rw [cell_of_block h.blk]; rfl
  clear h
  go_enter Tryz.func121, Tryz.ntmps121
  go_wp2_with fail
  go_ret
  exact ⟨rfl, rfl⟩
set_option maxRecDepth 100000 in
set_option maxHeartbeats 1000000 in
theorem index_Manifest (b : Nat) (X : Ix) (w : World) (h : IxAt w b X) :
    Calls Tryz.prog 156 #[.pointer (some ⟨b, 0, none⟩)] w fun e w' => e = .returned (.agg (Mf X.seed)) ∧ Below w.heap.size w w' := by
  have hB := (Below.refl w.heap.size w).alloc (Nat.le_refl _) (.cells #[.int .i64 0, .int .i64 0, .int .u64 0, .slice none 0 0] 184)
  have h2 := h.below hB
  have hk := blk_new (w := w) rfl (.cells #[.int .i64 0, .int .i64 0, .int .u64 0, .slice none 0 0] 184)
  have HN := Lib.hid (index_none b X _ h2)
  obtain ⟨W, hW⟩ : ∃ W, w.alloc (.cells #[.int .i64 0, .int .i64 0, .int .u64 0, .slice none 0 0] 184) = W := ⟨_, rfl⟩
  rw [hW] at h2 HN hB hk
  have HW := Lib.hid hW
  have hx := h2.blk
  unfold Ix.cells at hx
  have p_c0 : World.cell? W ⟨b, 0, none⟩ = some (.pointer (some ⟨X.bd, 0, none⟩)) := by rw [cell_of_block hx]; rfl
  have p_f0 : World.frozen? W ⟨b, 0, none⟩ = false := frozen_of_block hx
  have p_c1 : World.cell? W ⟨b, 1, none⟩ = some (.int .i64 0) := by rw [cell_of_block hx]; rfl
  have p_f1 : World.frozen? W ⟨b, 1, none⟩ = false := frozen_of_block hx
  have p_c2 : World.cell? W ⟨b, 2, none⟩ = some (.int .i64 0) := by rw [cell_of_block hx]; rfl
  have p_f2 : World.frozen? W ⟨b, 2, none⟩ = false := frozen_of_block hx
  have p_c3 : World.cell? W ⟨b, 3, none⟩ = some (.int .u64 X.seed) := by rw [cell_of_block hx]; rfl
  have p_f3 : World.frozen? W ⟨b, 3, none⟩ = false := frozen_of_block hx
  have p_c4 : World.cell? W ⟨b, 4, none⟩ = some (.slice none 0 0) := by rw [cell_of_block hx]; rfl
  have p_f4 : World.frozen? W ⟨b, 4, none⟩ = false := frozen_of_block hx
  have HB := Lib.hid hB
  have HK := Lib.hid hk
  clear h h2 hB hk hW hx p_f0 p_f1 p_f2 p_f3 p_f4
  go_enter Tryz.func156, Tryz.ntmps156
  go_wp2_with fail
  rw [HW.out]
  refine HN.out.mono ?_
  rintro e w1 ⟨rfl, rfl⟩
  go_wp2_with fail
  refine (index_copied_nil W X.seed).mono ?_
  rintro e w1 ⟨rfl, hb1⟩
  have hk1 := blk_kept hb1 HK.out
  have q_c0 : World.cell? w1 ⟨w.heap.size, 0, none⟩ = some (.int .i64 0) := by rw [cell_of_block hk1]; rfl
  have q_f0 : World.frozen? w1 ⟨w.heap.size, 0, none⟩ = false := frozen_of_block hk1
  have q_c1 : World.cell? w1 ⟨w.heap.size, 1, none⟩ = some (.int .i64 0) := by rw [cell_of_block hk1]; rfl
  have q_f1 : World.frozen? w1 ⟨w.heap.size, 1, none⟩ = false := frozen_of_block hk1
  have q_c2 : World.cell? w1 ⟨w.heap.size, 2, none⟩ = some (.int .u64 0) := by rw [cell_of_block hk1]; rfl
  have q_f2 : World.frozen? w1 ⟨w.heap.size, 2, none⟩ = false := frozen_of_block hk1
  have q_c3 : World.cell? w1 ⟨w.heap.size, 3, none⟩ = some (.slice none 0 0) := by rw [cell_of_block hk1]; rfl
  have q_f3 : World.frozen? w1 ⟨w.heap.size, 3, none⟩ = false := frozen_of_block hk1
  have HB1 := Lib.hid (HB.out.trans (hb1.mono HB.out.size))
  have HK1 := Lib.hid hk1
  unfold Mf
  clear hb1 hk1 p_c0 p_c1 p_c2 p_c3 p_c4
  go_wp2_with fail
  obtain ⟨W2, hW2⟩ : ∃ W2, ((((w1.setCell ⟨w.heap.size, 0, none⟩ (.int .i64 0)).setCell ⟨w.heap.size, 1, none⟩ (.int .i64 0)).setCell ⟨w.heap.size, 2, none⟩ (.int .u64 X.seed)).setCell ⟨w.heap.size, 3, none⟩ (.slice none 0 0)) = W2 := ⟨_, rfl⟩
  have hk3 : W2.heap[w.heap.size]? = some (.cells #[.int .i64 0, .int .i64 0, .int .u64 X.seed, .slice none 0 0] 184) := by
    rw [← hW2]; exact block_setCell (block_setCell (block_setCell (block_setCell HK1.out (.int .i64 0)) (.int .i64 0)) (.int .u64 X.seed)) (.slice none 0 0)
  have hB2 : Below w.heap.size w W2 := by
    rw [← hW2]
    exact (((HB1.out.setCell (p := ⟨w.heap.size, 0, none⟩) (Nat.le_refl _) _).setCell (p := ⟨w.heap.size, 1, none⟩) (Nat.le_refl _) _).setCell (p := ⟨w.heap.size, 2, none⟩) (Nat.le_refl _) _).setCell (p := ⟨w.heap.size, 3, none⟩) (Nat.le_refl _) _
  have r_c0 : World.cell? W2 ⟨w.heap.size, 0, none⟩ = some (.int .i64 0) := by rw [cell_of_block hk3]; rfl
  have r_f0 : World.frozen? W2 ⟨w.heap.size, 0, none⟩ = false := frozen_of_block hk3
  have r_c1 : World.cell? W2 ⟨w.heap.size, 1, none⟩ = some (.int .i64 0) := by rw [cell_of_block hk3]; rfl
  have r_f1 : World.frozen? W2 ⟨w.heap.size, 1, none⟩ = false := frozen_of_block hk3
  have r_c2 : World.cell? W2 ⟨w.heap.size, 2, none⟩ = some (.int .u64 X.seed) := by rw [cell_of_block hk3]; rfl
  have r_f2 : World.frozen? W2 ⟨w.heap.size, 2, none⟩ = false := frozen_of_block hk3
  have r_c3 : World.cell? W2 ⟨w.heap.size, 3, none⟩ = some (.slice none 0 0) := by rw [cell_of_block hk3]; rfl
  have r_f3 : World.frozen? W2 ⟨w.heap.size, 3, none⟩ = false := frozen_of_block hk3
  rw [hW2]
  exact bodyPost_ret (v := .agg (Mf X.seed)) (by simp [results, Tryz.f156, go_sem, r_c0, r_c1, r_c2, r_c3, Mf]) rfl ⟨rfl, hB2⟩
def freshIx (bd bm bt seed rate : Nat) : Ix := { bd := bd, bm := bm, bt := bt, seed := seed, rate := rate, mv := .slice none 0 0, ents := [] }
def IxPost (bd seed rate : Nat) (w : World) (e : Ending) (w' : World) : Prop :=
  ∃ b bm bt, e = .returned (.tuple #[.pointer (some ⟨b, 0, none⟩), .int .i64 0]) ∧ w.heap.size ≤ b ∧ w.heap.size ≤ bm ∧ IxAt w' b (freshIx bd bm bt seed rate) ∧ Below w.heap.size w w'
set_option maxRecDepth 100000 in
set_option maxHeartbeats 1000000 in
theorem index_Open_none (bd : Nat) (D : Dk) (w : World) (seed rate : Nat) (h : DiskAt w bd D) (hd : D.down = false) (hn : D.named) :
    Calls Tryz.prog 155 #[.pointer (some ⟨bd, 0, none⟩), .agg (Mf seed), .float .f64 rate] w (IxPost bd seed rate w) := by
  have hmm := @run_makeMap Tryz.prog
  have hB := (Below.refl w.heap.size w).alloc (Nat.le_refl _) (.cells (Mf seed) 184)
  have HS := Lib.hid (disk_Size_none bd D _ [] (h.below hB) hd hn)
  have hk := blk_new (w := w) rfl (.cells (Mf seed) 184)
  unfold Mf at HS hB hk
  obtain ⟨W, hW⟩ : ∃ W, w.alloc (.cells #[.int .i64 0, .int .i64 0, .int .u64 seed, .slice none 0 0] 184) = W := ⟨_, rfl⟩
  rw [hW] at HS hB hk
  have HW := Lib.hid hW
  have HB := Lib.hid hB
  have HK := Lib.hid hk
  have hsz : W.heap.size = w.heap.size + 1 := by rw [← hW]; simp
  have HSZ := Lib.hid hsz
  clear h hd hn hB hk hW hsz
  have p_c0 : World.cell? W ⟨w.heap.size, 0, none⟩ = some (.int .i64 0) := by rw [cell_of_block HK.out]; rfl
  have p_f0 : World.frozen? W ⟨w.heap.size, 0, none⟩ = false := frozen_of_block HK.out
  have p_c1 : World.cell? W ⟨w.heap.size, 1, none⟩ = some (.int .i64 0) := by rw [cell_of_block HK.out]; rfl
  have p_f1 : World.frozen? W ⟨w.heap.size, 1, none⟩ = false := frozen_of_block HK.out
  have p_c2 : World.cell? W ⟨w.heap.size, 2, none⟩ = some (.int .u64 seed) := by rw [cell_of_block HK.out]; rfl
  have p_f2 : World.frozen? W ⟨w.heap.size, 2, none⟩ = false := frozen_of_block HK.out
  have p_c3 : World.cell? W ⟨w.heap.size, 3, none⟩ = some (.slice none 0 0) := by rw [cell_of_block HK.out]; rfl
  have p_f3 : World.frozen? W ⟨w.heap.size, 3, none⟩ = false := frozen_of_block HK.out
  clear p_f0 p_f1 p_f2 p_f3
  unfold Mf
  go_enter Tryz.func155, Tryz.ntmps155
  go_wp2_with fail
  rw [HW.out]
  refine HS.out.mono ?_
  rintro e w1 ⟨rfl, rfl⟩
  go_wp2_with fail
  refine (manifests_Valid_nil W seed).mono ?_
  rintro e w1 ⟨rfl, hb1⟩
  have hk1 := blk_kept hb1 HK.out
  clear p_c0 p_c1 p_c2 p_c3
  have p_c0 : World.cell? w1 ⟨w.heap.size, 0, none⟩ = some (.int .i64 0) := by rw [cell_of_block hk1]; rfl
  have p_f0 : World.frozen? w1 ⟨w.heap.size, 0, none⟩ = false := frozen_of_block hk1
  have p_c1 : World.cell? w1 ⟨w.heap.size, 1, none⟩ = some (.int .i64 0) := by rw [cell_of_block hk1]; rfl
  have p_f1 : World.frozen? w1 ⟨w.heap.size, 1, none⟩ = false := frozen_of_block hk1
  have p_c2 : World.cell? w1 ⟨w.heap.size, 2, none⟩ = some (.int .u64 seed) := by rw [cell_of_block hk1]; rfl
  have p_f2 : World.frozen? w1 ⟨w.heap.size, 2, none⟩ = false := frozen_of_block hk1
  have p_c3 : World.cell? w1 ⟨w.heap.size, 3, none⟩ = some (.slice none 0 0) := by rw [cell_of_block hk1]; rfl
  have p_f3 : World.frozen? w1 ⟨w.heap.size, 3, none⟩ = false := frozen_of_block hk1
  clear p_f0 p_f1 p_f2 p_f3
  have HK1 := Lib.hid hk1
  have HB1 := Lib.hid hb1
  clear hk1 hb1
  go_wp2_with fail
  refine (index_copied_nil w1 seed).mono ?_
  rintro e w2 ⟨rfl, hb2⟩
  have HK2 := Lib.hid (blk_kept hb2 HK1.out)
  have HB2 := Lib.hid (HB1.out.trans (hb2.mono HB1.out.size))
  clear hb2 p_c0 p_c1 p_c2 p_c3
  unfold Mf
  go_wp2_with fail
  refine (memtable_New w2).mono ?_
  rintro e w3 ⟨rfl, rfl⟩
  have c3 : World.cell? (((w2.alloc (.cells #[.bool true, .slice none 0 0] 232)).alloc (.map #[] 0)).alloc (.cells #[.pointer (some ⟨bd, 0, none⟩), .int .i64 0, .int .i64 0, .int .u64 seed, .slice none 0 0, .float .f64 rate, .pointer (some ⟨w2.heap.size, 0, none⟩), .map (some (w2.heap.size + 1))] 188)) ⟨w.heap.size, 3, none⟩ = some (.slice none 0 0) := by
    rw [cell_of_block (blk_alloc (blk_alloc (blk_alloc HK2.out)))]; rfl
  have hsz2 : w.heap.size ≤ w2.heap.size := Nat.le_trans (by rw [HSZ.out]; omega) HB2.out.size
  go_wp2_with fail
  refine (levels_All_nil _).mono ?_
  rintro e w5 ⟨rfl, rfl⟩
  go_wp2_with fail
  refine wp_loop_once ?_
  go_wp2_with fail
  go_ret2
  refine ⟨w2.heap.size + 1 + 1, w2.heap.size, w2.heap.size + 1, rfl, by omega, hsz2, ⟨blk_new (by simp) _, blk_alloc (blk_alloc (blk_new rfl _)), World.ownsRow_nil _ _ _ _, by simp [freshIx]; omega, by simp [freshIx, Value.ownBlock], by simp [freshIx], by simp [freshIx]⟩, ?_⟩
  exact HB.out.trans (((((HB2.out.mono HB.out.size).alloc hsz2 _).alloc (by simp; omega) _).alloc (by simp; omega) _))
end Go.Proofs.YtamlhndibcafgaaGreatDoor
