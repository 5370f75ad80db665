/- Contracts of package disk: what a disk is in memory; New, the questions, find, Size. -/
import Derived.Test.YtamlhndibcafgaaGreatDoorEvents
import Derived.Test.YtamlhndibcafgaaGreatDoorMapKit
import Derived.Test.YtamlhndibcafgaaGreatDoorStrs
namespace Go.Proofs.YtamlhndibcafgaaGreatDoor
open Go.RowKit Go.MapKept
open Go.ChangeMaps (setBlock)

/-- A file: its name, its block, its stamp in the map, its data's slice, its bytes, how many are sure. -/
structure Fl where
  name : List UInt8
  fb : Nat
  born : Nat
  dv : Value
  data : List UInt8
  sync : Nat
/-- A disk. -/
structure Dk where
  bM : Nat
  clk : Nat
  cap : Nat
  used : Nat
  reads : Int
  starts : Nat
  left : Nat
  down : Bool
  fails : Bool
  keep : Value
  files : List Fl
def Dk.cells (D : Dk) : Array Value := #[.bool true, .int .i64 D.cap, .int .i64 D.used, .map (some D.bM), .int .i64 D.reads, .int .i64 D.starts, .bool D.down, .bool D.fails, .int .i64 D.left, D.keep]
def Fl.cells (f : Fl) : Array Value := #[f.dv, .int .i64 f.sync]
def Fl.ent (f : Fl) : Ent (List UInt8) := ⟨f.name, .pointer (some ⟨f.fb, 0, none⟩), f.born⟩
/-- A slice of bytes that lies at a row's head. -/
def DataAt (w : World) (dv : Value) (l : List UInt8) : Prop :=
  (dv = .slice none 0 0 ∧ l = []) ∨
    ∃ g cap cur, dv = .slice (some ⟨g, 0, none⟩) l.length cap ∧ w.heap[g]? = some (.cells cur 5 (0, 0)) ∧ l.length ≤ cap ∧ cap ≤ cur.size ∧ cap ≤ maxLen ∧ cur.toList.take l.length = bytesRow l
/-- The blocks of a disk. -/
def Dk.has (b : Nat) (D : Dk) (k : Nat) : Prop := k = b ∨ k = D.bM ∨ ∃ f ∈ D.files, k = f.fb ∨ f.dv.ownBlock = some k
structure DiskAt (w : World) (b : Nat) (D : Dk) : Prop where
  blk : w.heap[b]? = some (.cells D.cells 159)
  map : w.heap[D.bM]? = some (.map (strKeys.ents (D.files.map Fl.ent)) D.clk)
  file : ∀ f ∈ D.files, w.heap[f.fb]? = some (.cells f.cells 162)
  data : ∀ f ∈ D.files, DataAt w f.dv f.data
  bb : b ≠ D.bM
  fbs : ∀ f ∈ D.files, f.fb ≠ b ∧ f.fb ≠ D.bM
  own : ∀ f ∈ D.files, ∀ k, f.dv.ownBlock = some k → k ≠ b ∧ k ≠ D.bM
  own2 : ∀ f ∈ D.files, ∀ g ∈ D.files, g.dv.ownBlock ≠ some f.fb
  two : ∀ f ∈ D.files, ∀ g ∈ D.files, f.name ≠ g.name → f.fb ≠ g.fb ∧ ∀ k, f.dv.ownBlock = some k → g.dv.ownBlock ≠ some k
  names : D.files.Pairwise (fun f g => f.name ≠ g.name)
  small : D.cap ≤ 1048576 ∧ D.used ≤ D.cap ∧ (-9223372036854775808 ≤ D.reads ∧ D.reads ≤ 9223372036854775807) ∧ D.starts ≤ 1000000000000 ∧ D.left ≤ 1000000000000000
  sizes : ∀ f ∈ D.files, f.sync ≤ f.data.length
  sum : (D.files.map fun f => f.data.length).sum = D.used
theorem le_sum_mem {l : List Nat} {n : Nat} (h : n ∈ l) : n ≤ l.sum := by
  induction l with
  | nil => cases h
  | cons x l ih =>
    simp only [List.mem_cons] at h
    rw [List.sum_cons]
    rcases h with rfl | h
    · omega
    · have := ih h; omega
theorem DiskAt.len {w : World} {b : Nat} {D : Dk} (h : DiskAt w b D) {f : Fl} (hf : f ∈ D.files) : f.data.length ≤ D.used := by
  rw [← h.sum]
  exact le_sum_mem (List.mem_map_of_mem (f := fun f : Fl => f.data.length) hf)
theorem DataAt.lt {w : World} {dv : Value} {l : List UInt8} (h : DataAt w dv l) {k : Nat} (hk : dv.ownBlock = some k) : k < w.heap.size := by
  rcases h with ⟨rfl, -⟩ | ⟨g, cap, cur, rfl, hg, -⟩
  · cases hk
  · simp only [Value.ownBlock, Option.some.injEq] at hk
    subst hk; exact blk_lt hg
theorem DiskAt.has_lt {w : World} {b : Nat} {D : Dk} (h : DiskAt w b D) {k : Nat} (hk : D.has b k) : k < w.heap.size := by
  rcases hk with rfl | rfl | ⟨f, hf, rfl | hk⟩
  · exact blk_lt h.blk
  · exact blk_lt h.map
  · exact blk_lt (h.file f hf)
  · exact (h.data f hf).lt hk
/-- But for some blocks the world is as it was. -/
structure Upd (S : Nat → Prop) (w w' : World) : Prop where
  os : w'.os = w.os
  tape : w'.tape = w.tape
  output : w'.output = w.output
  size : w.heap.size ≤ w'.heap.size
  block : ∀ k, k < w.heap.size → ¬ S k → w'.heap[k]? = w.heap[k]?
section
variable {S T : Nat → Prop} {a b c w w' : World}
theorem Upd.refl (S : Nat → Prop) (w : World) : Upd S w w := ⟨rfl, rfl, rfl, Nat.le_refl _, fun _ _ _ => rfl⟩
theorem Upd.trans (h : Upd S a b) (k : Upd S b c) : Upd S a c :=
  ⟨k.os.trans h.os, k.tape.trans h.tape, k.output.trans h.output, Nat.le_trans h.size k.size, fun i hi hn => (k.block i (Nat.lt_of_lt_of_le hi h.size) hn).trans (h.block i hi hn)⟩
theorem Upd.mono (h : Upd S a b) (hs : ∀ k, k < a.heap.size → S k → T k) : Upd T a b :=
  ⟨h.os, h.tape, h.output, h.size, fun i hi hn => h.block i hi (fun hm => hn (hs i hi hm))⟩
/-- Two steps; what the second one may touch the first one may, or it is new. -/
theorem Upd.then (h : Upd S a b) (k : Upd T b c) (hT : ∀ j, T j → S j ∨ a.heap.size ≤ j) : Upd S a c :=
  ⟨k.os.trans h.os, k.tape.trans h.tape, k.output.trans h.output, Nat.le_trans h.size k.size, fun i hi hn =>
    (k.block i (Nat.lt_of_lt_of_le hi h.size) (fun hm => by rcases hT i hm with e | e; exact hn e; omega)).trans (h.block i hi hn)⟩
theorem Upd.of_below (h : Below w.heap.size w w') : Upd S w w' := ⟨h.os, h.tape, h.output, h.size, fun k hk _ => h.block k hk⟩
theorem Upd.below {B : Nat} (h : Upd S w w') (hB : B ≤ w.heap.size) (hS : ∀ k, S k → B ≤ k) : Below B w w' :=
  ⟨h.os, h.tape, h.output, h.size, fun k hk => h.block k (by omega) (fun hm => by have := hS k hm; omega)⟩
theorem Upd.setCell (h : Upd S a w) {p : Addr} (hp : S p.block ∨ a.heap.size ≤ p.block) (u : Value) : Upd S a (w.setCell p u) :=
  ⟨h.os, h.tape, h.output, by simpa [World.setCell] using h.size, fun k hk hn => by
    rw [Below.heap_setCell _ _ _ _ (by rintro rfl; rcases hp with hp | hp; exact hn hp; omega)]; exact h.block k hk hn⟩
theorem Upd.alloc (h : Upd S a w) (o : Obj) : Upd S a (w.alloc o) :=
  ⟨h.os, h.tape, h.output, by simp; exact Nat.le_succ_of_le h.size, fun k hk hn => by
    rw [Below.heap_alloc _ _ _ (by have := h.size; omega)]; exact h.block k hk hn⟩
theorem Upd.drewN (h : Upd S a w) (n : Nat) : Upd S a (w.drewN n) := ⟨h.os, h.tape, h.output, h.size, h.block⟩
theorem Upd.setBlock (h : Upd S a w) {j : Nat} {o o' : Obj} (hb : w.heap[j]? = some o) (hp : S j ∨ a.heap.size ≤ j) : Upd S a (setBlock w j o') :=
  ⟨h.os, h.tape, h.output, by rw [setBlock_size]; exact h.size, fun k hk hn => by
    rw [setBlock_other hb (by rintro rfl; rcases hp with hp | hp; exact hn hp; omega)]; exact h.block k hk hn⟩
theorem Upd.kept (h : Upd S w w') {j : Nat} {o : Obj} (hb : w.heap[j]? = some o) (hn : ¬ S j) : w'.heap[j]? = some o := (h.block j (blk_lt hb) hn).trans hb
end
theorem DataAt.kept {S : Nat → Prop} {w w' : World} {dv : Value} {l : List UInt8} (h : DataAt w dv l) (hu : Upd S w w') (hn : ∀ k, dv.ownBlock = some k → ¬ S k) : DataAt w' dv l := by
  rcases h with h | ⟨g, cap, cur, rfl, hg, r⟩
  · exact .inl h
  · exact .inr ⟨g, cap, cur, rfl, hu.kept hg (hn g rfl), r⟩
/-- A disk that nobody touched. -/
theorem DiskAt.kept {S : Nat → Prop} {w w' : World} {b : Nat} {D : Dk} (h : DiskAt w b D) (hu : Upd S w w') (hn : ∀ k, D.has b k → ¬ S k) : DiskAt w' b D where
  blk := hu.kept h.blk (hn _ (.inl rfl))
  map := hu.kept h.map (hn _ (.inr (.inl rfl)))
  file := fun f hf => hu.kept (h.file f hf) (hn _ (.inr (.inr ⟨f, hf, .inl rfl⟩)))
  data := fun f hf => (h.data f hf).kept hu (fun _ hk => hn _ (.inr (.inr ⟨f, hf, .inr hk⟩)))
  bb := h.bb
  fbs := h.fbs
  own := h.own
  own2 := h.own2
  two := h.two
  names := h.names
  small := h.small
  sizes := h.sizes
  sum := h.sum
theorem DiskAt.below {w w' : World} {b : Nat} {D : Dk} (h : DiskAt w b D) (hu : Below w.heap.size w w') : DiskAt w' b D :=
  h.kept (S := fun _ => False) (Upd.of_below hu) (fun _ _ h => h)

def freshDk (bM cap : Nat) : Dk := { bM := bM, clk := 0, cap := cap, used := 0, reads := 0, starts := 0, left := 0, down := false, fails := false, keep := .slice none 0 0, files := [] }
set_option maxHeartbeats 400000 in
theorem disk_New (c : Nat) (w : World) (hc : c ≤ 1048576) :
    Calls Tryz.prog 69 #[.int .i64 c] w fun e w' => e = .returned (.tuple #[.pointer (some ⟨w.heap.size + 1, 0, none⟩), .int .i64 0]) ∧ DiskAt w' (w.heap.size + 1) (freshDk w.heap.size c) ∧ Below w.heap.size w w' := by
  have hmm := @run_makeMap Tryz.prog
  go_enter Tryz.func69, Tryz.ntmps69
  go_wp2_with fail
  go_ret2
  refine ⟨rfl, ⟨?_, ?_, by simp [freshDk], by simp [freshDk], by simp [freshDk], by simp [freshDk], by simp [freshDk], by simp [freshDk], by simp [freshDk], by simp [freshDk], by simp [freshDk]; omega, by simp [freshDk], by simp [freshDk]⟩, ?_⟩
  · exact blk_new (by simp) _
  · exact blk_alloc (heap_alloc_new w _)
  · exact ((Below.refl _ _).alloc (Nat.le_refl _) _).alloc (by simp) _

set_option maxHeartbeats 400000 in
theorem disk_ready (b : Nat) (D : Dk) (w : World) (h : DiskAt w b D) :
    Calls Tryz.prog 97 #[.pointer (some ⟨b, 0, none⟩)] w fun e w' => e = .returned (.int .i64 (if D.down then 61 else 0)) ∧ w = w' := by
  have hk := h.blk
  have c0 : w.cell? ⟨b, 0, none⟩ = some (.bool true) := by rw [cell_of_block hk]; rfl
  have c6 : w.cell? ⟨b, 6, none⟩ = some (.bool D.down) := by rw [cell_of_block hk]; rfl
  clear h hk
  cases hd : D.down
  all_goals
    rw [hd] at c6
    clear hd
    go_enter Tryz.func97, Tryz.ntmps97
    go_wp2
    go_ret
    exact ⟨rfl, rfl⟩

set_option maxHeartbeats 400000 in
theorem disk_Up (b : Nat) (D : Dk) (w : World) (h : DiskAt w b D) :
    Calls Tryz.prog 68 #[.pointer (some ⟨b, 0, none⟩)] w fun e w' => e = .returned (.bool (!D.down)) ∧ w = w' := by
  have hr := disk_ready b D w h
  clear h
  cases hd : D.down
  all_goals
    rw [hd] at hr
    have HR := Lib.hid hr
    clear hd hr
    go_enter Tryz.func68, Tryz.ntmps68
    go_wp2_with fail
    refine HR.out.mono ?_
    rintro e w' ⟨rfl, rfl⟩
    simp only [if_true, Bool.false_eq_true, if_false]
    go_wp2_with fail
    go_ret
    exact ⟨rfl, rfl⟩

set_option maxHeartbeats 400000 in
theorem disk_none (b : Nat) (D : Dk) (w : World) (h : DiskAt w b D) :
    Calls Tryz.prog 136 #[.pointer (some ⟨b, 0, none⟩)] w fun e w' => e = .returned (.bool false) ∧ w = w' := by
  have c0 : w.cell? ⟨b, 0, none⟩ = some (.bool true) := by rw [cell_of_block h.blk]; rfl
  clear h
  go_enter Tryz.func136, Tryz.ntmps136
  go_wp2_with fail
  go_ret
  exact ⟨rfl, rfl⟩

set_option maxHeartbeats 400000 in
theorem disk_Starts (b : Nat) (D : Dk) (w : World) (h : DiskAt w b D) :
    Calls Tryz.prog 151 #[.pointer (some ⟨b, 0, none⟩)] w fun e w' => e = .returned (.int .i64 D.starts) ∧ w = w' := by
  have c5 : w.cell? ⟨b, 5, none⟩ = some (.int .i64 D.starts) := by rw [cell_of_block h.blk]; rfl
  have HN := Lib.hid (disk_none b D w h)
  clear h
  go_enter Tryz.func151, Tryz.ntmps151
  go_wp2_with fail
  refine HN.out.mono ?_
  rintro e w' ⟨rfl, rfl⟩
  go_wp2_with fail
  go_ret
  exact ⟨rfl, rfl⟩

set_option maxHeartbeats 400000 in
theorem disk_Free (b : Nat) (D : Dk) (w : World) (h : DiskAt w b D) :
    Calls Tryz.prog 221 #[.pointer (some ⟨b, 0, none⟩)] w fun e w' => e = .returned (.int .i64 (D.cap - D.used)) ∧ ∃ n, w' = w.drewN n := by
  have c1 : w.cell? ⟨b, 1, none⟩ = some (.int .i64 D.cap) := by rw [cell_of_block h.blk]; rfl
  have c2 : w.cell? ⟨b, 2, none⟩ = some (.int .i64 D.used) := by rw [cell_of_block h.blk]; rfl
  have HN := Lib.hid (disk_none b D w h)
  have hs := h.small
  have e1 : IntKind.i64.wrap ((D.cap : Int) - D.used) = D.cap - D.used := IntWalk.i64_in _ (by omega)
  clear h hs
  go_enter Tryz.func221, Tryz.ntmps221
  go_wp2_with fail
  refine HN.out.mono ?_
  rintro e w' ⟨rfl, rfl⟩
  go_wp2_with fail
  go_quiet (fail)
  go_wp2_with fail
  go_ret
  exact ⟨rfl, _, rfl⟩

def Dk.find (D : Dk) (n : List UInt8) : Option Fl := D.files.find? fun f => f.name == n
theorem aget_files (l : List Fl) (n : List UInt8) : aget (l.map Fl.ent) n = (l.find? fun f => f.name == n).map fun f => .pointer (some ⟨f.fb, 0, none⟩) := by
  induction l with
  | nil => rfl
  | cons f l ih =>
    simp only [List.map_cons, aget, Fl.ent, List.find?_cons]
    by_cases h : n = f.name
    · subst h; simp
    · have : (f.name == n) = false := by rw [beq_eq_false_iff_ne]; exact fun e => h e.symm
      rw [if_neg h, this]
      exact ih
set_option maxHeartbeats 400000 in
theorem disk_find_some (b : Nat) (D : Dk) (w : World) (n : List UInt8) (f : Fl) (h : DiskAt w b D) (hd : D.down = false) (hf : D.find n = some f) :
    Calls Tryz.prog 173 #[.pointer (some ⟨b, 0, none⟩), .string ⟨n.toArray⟩] w fun e w' => e = .returned (.tuple #[.pointer (some ⟨f.fb, 0, none⟩), .int .i64 0]) ∧ w = w' := by
  have c3 : w.cell? ⟨b, 3, none⟩ = some (.map (some D.bM)) := by rw [cell_of_block h.blk]; rfl
  have hr := disk_ready b D w h
  rw [hd] at hr
  have HR := Lib.hid hr
  have hlk := (run_lookup_some (P := Tryz.prog) (t := 157) strKeys Tryz.underlying157 Tryz.underlying9 h.map (by rw [aget_files]; unfold Dk.find at hf; rw [hf]; rfl)).2
  dsimp only [strKeys] at hlk
  clear h hr hd hf
  go_enter Tryz.func173, Tryz.ntmps173
  go_wp2_with fail
  refine HR.out.mono ?_
  rintro e w' ⟨rfl, rfl⟩
  simp only [Bool.false_eq_true, if_false]
  go_wp2_with fail
  go_ret2
  exact ⟨rfl, rfl⟩
theorem Tryz.zeroFile (w : World) : (zeroValue 156).run Tryz.prog w = .ok (.pointer none) w := by kernel_rfl
set_option maxHeartbeats 400000 in
theorem disk_find_none (b : Nat) (D : Dk) (w : World) (n : List UInt8) (h : DiskAt w b D) (hd : D.down = false) (hf : D.find n = none) :
    Calls Tryz.prog 173 #[.pointer (some ⟨b, 0, none⟩), .string ⟨n.toArray⟩] w fun e w' => e = .returned (.tuple #[.pointer none, .int .i64 4]) ∧ w = w' := by
  have c3 : w.cell? ⟨b, 3, none⟩ = some (.map (some D.bM)) := by rw [cell_of_block h.blk]; rfl
  have hr := disk_ready b D w h
  rw [hd] at hr
  have HR := Lib.hid hr
  have hlk := (run_lookup_none (P := Tryz.prog) (t := 157) strKeys Tryz.underlying157 Tryz.underlying9 (Tryz.zeroFile _) h.map (k := n) (by rw [aget_files]; unfold Dk.find at hf; rw [hf]; rfl)).2
  dsimp only [strKeys] at hlk
  clear h hr hd hf
  go_enter Tryz.func173, Tryz.ntmps173
  go_wp2_with fail
  refine HR.out.mono ?_
  rintro e w' ⟨rfl, rfl⟩
  simp only [Bool.false_eq_true, if_false]
  go_wp2_with fail
  go_ret2
  exact ⟨rfl, rfl⟩

set_option maxHeartbeats 400000 in
theorem disk_Size_some (b : Nat) (D : Dk) (w : World) (n : List UInt8) (f : Fl) (h : DiskAt w b D) (hd : D.down = false) (hf : D.find n = some f) :
    Calls Tryz.prog 148 #[.pointer (some ⟨b, 0, none⟩), .string ⟨n.toArray⟩] w fun e w' => e = .returned (.tuple #[.int .i64 f.data.length, .int .i64 0]) ∧ w = w' := by
  have HF := Lib.hid (disk_find_some b D w n f h hd hf)
  have hm : f ∈ D.files := List.mem_of_find?_eq_some hf
  have c0 : w.cell? ⟨f.fb, 0, none⟩ = some f.dv := by rw [cell_of_block (h.file f hm)]; rfl
  obtain ⟨a, cap, hv⟩ : ∃ a cap, f.dv = .slice a f.data.length cap := by
    rcases h.data f hm with ⟨e, e2⟩ | ⟨g, cap, cur, e, -⟩
    · exact ⟨none, 0, by rw [e, e2]; rfl⟩
    · exact ⟨_, _, e⟩
  rw [hv] at c0
  clear h hd hf hv hm
  go_enter Tryz.func148, Tryz.ntmps148
  go_wp2_with fail
  refine HF.out.mono ?_
  rintro e w' ⟨rfl, rfl⟩
  go_wp2_with fail
  go_ret2
  exact ⟨rfl, rfl⟩
set_option maxHeartbeats 400000 in
theorem disk_Size_none (b : Nat) (D : Dk) (w : World) (n : List UInt8) (h : DiskAt w b D) (hd : D.down = false) (hf : D.find n = none) :
    Calls Tryz.prog 148 #[.pointer (some ⟨b, 0, none⟩), .string ⟨n.toArray⟩] w fun e w' => e = .returned (.tuple #[.int .i64 0, .int .i64 4]) ∧ w = w' := by
  have HF := Lib.hid (disk_find_none b D w n h hd hf)
  clear h hd hf
  go_enter Tryz.func148, Tryz.ntmps148
  go_wp2_with fail
  refine HF.out.mono ?_
  rintro e w' ⟨rfl, rfl⟩
  go_wp2_with fail
  go_ret2
  exact ⟨rfl, rfl⟩
set_option maxHeartbeats 400000 in
theorem disk_Delete_none (b : Nat) (D : Dk) (w : World) (n : List UInt8) (h : DiskAt w b D) (hd : D.down = false) (hf : D.find n = none) :
    Calls Tryz.prog 149 #[.pointer (some ⟨b, 0, none⟩), .string ⟨n.toArray⟩] w fun e w' => e = .returned (.int .i64 4) ∧ w = w' := by
  have HF := Lib.hid (disk_find_none b D w n h hd hf)
  clear h hd hf
  go_enter Tryz.func149, Tryz.ntmps149
  go_wp2_with fail
  refine HF.out.mono ?_
  rintro e w' ⟨rfl, rfl⟩
  go_wp2_with fail
  go_ret
  exact ⟨rfl, rfl⟩
def nameB (l : List UInt8) : Bool := decide (l ≠ [] ∧ l.length ≤ 12)
set_option maxHeartbeats 400000 in
theorem disk_name (l : List UInt8) (w : World) (hl : l.length ≤ maxLen) :
    Calls Tryz.prog 222 #[.string ⟨l.toArray⟩] w fun e w' => e = .returned (.bool (nameB l)) ∧ w = w' := by
  unfold maxLen at hl
  go_enter Tryz.func222, Tryz.ntmps222
  go_wp2_with fail
  all_goals
    go_ret
    refine ⟨ret_bool ?_, rfl⟩
  · have h : l = [] := by assumption
    subst h; rfl
  · have h : ¬ l = [] := by assumption
    have hi : l.isEmpty = false := by simpa using h
    rw [hi]
    by_cases h2 : l.length ≤ 12
    · have h3 : (l.length : Int) ≤ 12 := by omega
      simp [nameB, h, h2, h3]
    · have h3 : ¬ (l.length : Int) ≤ 12 := by omega
      simp only [nameB, h3]
      simp [h2]
/-- One change more is done, and none fails. -/
def Dk.step (D : Dk) : Dk := { D with left := D.left - 1 }
def Dk.fine (D : Dk) : Prop := D.fails = false ∨ D.left ≠ 0
theorem Dk.step_cells (D : Dk) : D.step.cells = D.cells.setIfInBounds 8 (.int .i64 ((D.left - 1 : Nat) : Int)) := rfl
set_option maxHeartbeats 400000 in
theorem disk_fails_no (b : Nat) (D : Dk) (w : World) (h : DiskAt w b D) (hfi : D.fine) :
    Calls Tryz.prog 209 #[.pointer (some ⟨b, 0, none⟩)] w fun e w' => e = .returned (.bool false) ∧ DiskAt w' b D.step ∧ Upd (· = b) w w' := by
  have hk := h.blk
  have hs := h.small
  have c7 : w.cell? ⟨b, 7, none⟩ = some (.bool D.fails) := by rw [cell_of_block hk]; rfl
  have c8 : w.cell? ⟨b, 8, none⟩ = some (.int .i64 D.left) := by rw [cell_of_block hk]; rfl
  have f8 : w.frozen? ⟨b, 8, none⟩ = false := frozen_of_block hk
  have hu : Upd (· = b) w (w.setCell ⟨b, 8, none⟩ (.int .i64 ((D.left - 1 : Nat) : Int))) := Upd.setCell (S := (· = b)) (Upd.refl _ w) (.inl rfl) _
  have hD : DiskAt (w.setCell ⟨b, 8, none⟩ (.int .i64 ((D.left - 1 : Nat) : Int))) b D.step := {
    blk := block_setCell hk _
    map := hu.kept h.map (fun e => h.bb e.symm)
    file := fun f hf => hu.kept (h.file f hf) (h.fbs f hf).1
    data := fun f hf => (h.data f hf).kept hu (fun k hk => (h.own f hf k hk).1)
    bb := h.bb, fbs := h.fbs, own := h.own, own2 := h.own2, two := h.two, names := h.names
    small := ⟨hs.1, hs.2.1, hs.2.2.1, hs.2.2.2.1, by have := hs.2.2.2.2; show D.left - 1 ≤ _; omega⟩
    sizes := h.sizes, sum := h.sum }
  have HD := Lib.hid hD
  have HU := Lib.hid hu
  have hl := hs.2.2.2.2
  rcases Nat.eq_zero_or_pos D.left with h0 | h0
  · have hff : D.fails = false := by rcases hfi with e | e; exact e; exact absurd h0 e
    rw [hff] at c7
    rw [h0] at c8
    simp only [h0] at HD HU
    clear h hk hs hu hD hfi
    go_enter Tryz.func209, Tryz.ntmps209
    go_wp2_with fail
    go_ret
    exact ⟨rfl, HD.out, HU.out⟩
  · have hne : ((D.left : Int) == 0) = false := by rw [beq_eq_false_iff_ne]; omega
    have e1 : ((D.left - 1 : Nat) : Int) = (D.left : Int) - 1 := by omega
    rw [e1] at HD HU
    clear h hk hs hu hD hfi e1
    cases hff : D.fails
    all_goals
      rw [hff] at c7
      go_enter Tryz.func209, Tryz.ntmps209
      go_wp2_with fail
      go_ret
      exact ⟨rfl, HD.out, HU.out⟩

theorem run_len_map {P : Program} {w : World} {t kt et ty : TypeId} {κ : Type} [DecidableEq κ] (K : Keys κ) (ht : P.underlying t = some (.map kt et)) {b clock : Nat} {l : List (Ent κ)} (hb : w.heap[b]? = some (.map (K.ents l) clock)) :
    (Builtin.len_ #[t] ty #[.map (some b)]).run P w = .ok (.int .i64 l.length) w := by
  simp [Builtin.len_, run_underlying ht, MapKept.run_getObj_map hb, Keys.ents, goInt, Result.andThen]
def newFl (n : List UInt8) (fb born : Nat) : Fl := { name := n, fb := fb, born := born, dv := .slice none 0 0, data := [], sync := 0 }
def Dk.add (D : Dk) (n : List UInt8) (fb : Nat) : Dk := { D with clk := D.clk + 1, files := D.files ++ [newFl n fb D.clk] }
theorem find_none {D : Dk} {n : List UInt8} (h : D.find n = none) : ∀ f ∈ D.files, f.name ≠ n := by
  intro f hf e
  unfold Dk.find at h
  rw [List.find?_eq_none] at h
  exact h f hf (by simpa using e)
theorem aset_new {l : List Fl} {n : List UInt8} (h : ∀ f ∈ l, f.name ≠ n) (v : Value) (c : Nat) : aset (l.map Fl.ent) n v c = l.map Fl.ent ++ [⟨n, v, c⟩] := by
  induction l with
  | nil => rfl
  | cons f l ih =>
    simp only [List.map_cons, aset, Fl.ent]
    rw [if_neg (fun e => h f (by simp) e.symm)]
    simp only [List.cons_append]
    rw [← ih (fun g hg => h g (by simp [hg]))]
theorem aget_new {l : List Fl} {n : List UInt8} (h : ∀ f ∈ l, f.name ≠ n) : aget (l.map Fl.ent) n = none := by
  rw [aget_files, List.find?_eq_none.2 (fun f hf => by simpa using h f hf)]; rfl
theorem aclock_new {l : List Fl} {n : List UInt8} (h : ∀ f ∈ l, f.name ≠ n) (c : Nat) : aclock (l.map Fl.ent) n c = c + 1 := by
  unfold aclock; rw [aget_new h]; rfl
theorem DiskAt.add {w w' : World} {b : Nat} {D : Dk} {n : List UInt8} (h : DiskAt w b D) (hn : ∀ f ∈ D.files, f.name ≠ n)
    (hu : Upd (fun k => k = D.bM) w w') (hm : w'.heap[D.bM]? = some (.map (strKeys.ents (D.files.map Fl.ent ++ [⟨n, .pointer (some ⟨w.heap.size, 0, none⟩), D.clk⟩])) (D.clk + 1)))
    (hf : w'.heap[w.heap.size]? = some (.cells #[.slice none 0 0, .int .i64 0] 162)) : DiskAt w' b (D.add n w.heap.size) where
  blk := hu.kept h.blk h.bb
  map := by simpa [Dk.add, newFl, Fl.ent] using hm
  file := by
    intro f hf'
    simp only [Dk.add, List.mem_append, List.mem_singleton] at hf'
    rcases hf' with hf' | rfl
    · exact hu.kept (h.file f hf') (h.fbs f hf').2
    · exact hf
  data := by
    intro f hf'
    simp only [Dk.add, List.mem_append, List.mem_singleton] at hf'
    rcases hf' with hf' | rfl
    · exact (h.data f hf').kept hu (fun k hk => (h.own f hf' k hk).2)
    · exact .inl ⟨rfl, rfl⟩
  bb := h.bb
  fbs := by
    intro f hf'
    simp only [Dk.add, List.mem_append, List.mem_singleton] at hf'
    rcases hf' with hf' | rfl
    · exact h.fbs f hf'
    · have := blk_lt h.blk; have := blk_lt h.map; simp only [newFl, Dk.add]; omega
  own := by
    intro f hf' k hk
    simp only [Dk.add, List.mem_append, List.mem_singleton] at hf'
    rcases hf' with hf' | rfl
    · exact h.own f hf' k hk
    · cases hk
  own2 := by
    intro f hf' g hg'
    simp only [Dk.add, List.mem_append, List.mem_singleton] at hf' hg'
    rcases hg' with hg' | rfl
    · rcases hf' with hf' | rfl
      · exact h.own2 f hf' g hg'
      · intro e; have := (h.data g hg').lt e; simp [newFl] at this
    · intro e; cases e
  two := by
    intro f hf' g hg' hne
    simp only [Dk.add, List.mem_append, List.mem_singleton] at hf' hg'
    rcases hf' with hf' | rfl <;> rcases hg' with hg' | rfl
    · exact h.two f hf' g hg' hne
    · have := blk_lt (h.file f hf'); exact ⟨by simp only [newFl]; omega, fun k _ e => by cases e⟩
    · have := blk_lt (h.file g hg'); exact ⟨by simp only [newFl]; omega, fun k e => by cases e⟩
    · exact absurd rfl hne
  names := by
    show (D.files ++ [_]).Pairwise _
    rw [List.pairwise_append]
    exact ⟨h.names, by simp, fun f hf' g hg => by simp only [List.mem_singleton] at hg; subst hg; exact hn f hf'⟩
  small := h.small
  sizes := by
    intro f hf'
    simp only [Dk.add, List.mem_append, List.mem_singleton] at hf'
    rcases hf' with hf' | rfl
    · exact h.sizes f hf'
    · simp [newFl]
  sum := by simpa [Dk.add, newFl] using h.sum

end Go.Proofs.YtamlhndibcafgaaGreatDoor
