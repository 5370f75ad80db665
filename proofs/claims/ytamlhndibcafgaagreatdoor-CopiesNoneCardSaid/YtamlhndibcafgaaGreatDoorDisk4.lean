/- Contracts of package disk: Read, Sync, Names of an empty disk. -/
import Derived.Test.YtamlhndibcafgaaGreatDoorDisk3
import Derived.Test.YtamlhndibcafgaaGreatDoorSortOne
namespace Go.Proofs.YtamlhndibcafgaaGreatDoor
open Go.RowKit Go.MapKept
open Go.ChangeMaps (setBlock)

def Dk.rd (D : Dk) (r : Int) : Dk := { D with reads := r }
def Dk.read (D : Dk) : Dk := { D with reads := wrap64 (D.reads + 1) }
theorem DiskAt.read {w : World} {b : Nat} {D : Dk} (h : DiskAt w b D) : DiskAt (w.setCell ⟨b, 4, none⟩ (.int .i64 (wrap64 (D.reads + 1)))) b D.read := by
  have hu : Upd (· = b) w (w.setCell ⟨b, 4, none⟩ (.int .i64 (wrap64 (D.reads + 1)))) := Upd.setCell (S := (· = b)) (Upd.refl _ w) (.inl rfl) _
  exact {
    blk := block_setCell h.blk _
    map := hu.kept h.map (fun e => h.bb e.symm)
    file := fun f hf => hu.kept (h.file f hf) (h.fbs f hf).1
    data := fun f hf => (h.data f hf).kept hu (fun k hk => (h.own f hf k hk).1)
    bb := h.bb, fbs := h.fbs, own := h.own, own2 := h.own2, two := h.two, names := h.names
    small := ⟨h.small.1, h.small.2.1, by show -9223372036854775808 ≤ wrap64 (D.reads + 1) ∧ wrap64 (D.reads + 1) ≤ 9223372036854775807; unfold wrap64; omega, h.small.2.2.2⟩
    sizes := h.sizes, sum := h.sum }
theorem convert_at {w : World} {b off n cap : Nat} {l : List UInt8} (hl : l.length = n) (hc : ∀ i (h : i < l.length), w.cell? ⟨b, off + i, none⟩ = some (.int .u8 l[i].toNat)) :
    (convert 31 9 (.slice (some ⟨b, off, none⟩) n cap)).run Tryz.prog w = .ok (.string ⟨l.toArray⟩) w := by
  have := run_convert_bytes_arg (P := Tryz.prog) w 31 5 Tryz.underlying31 Tryz.underlying5 b off n cap (l.map fun c => (c.toNat : Int)) (by simpa using hl)
    (fun i hi => by
      have hi' : i < l.length := by omega
      rw [hc i hi']
      simp [List.getD, hi']) 9 Tryz.underlying9
  rw [strOfNums_bytes] at this
  exact this
theorem convert_nil (w : World) (n cap : Nat) : (convert 31 9 (.slice none n cap)).run Tryz.prog w = .ok (.string ⟨([] : List UInt8).toArray⟩) w :=
  run_convert_bytes_nil (P := Tryz.prog) w 31 5 Tryz.underlying31 Tryz.underlying5 n cap 9 Tryz.underlying9
theorem cell_of_take {cur : Array Value} {l : List UInt8} (h : cur.toList.take l.length = bytesRow l) {i : Nat} (hi : i < l.length) : cur[i]? = some (.int .u8 l[i].toNat) := by
  have e : (cur.toList.take l.length)[i]? = (bytesRow l)[i]? := by rw [h]
  rw [List.getElem?_take, if_pos hi] at e
  simp only [Array.getElem?_toList] at e
  rw [e]
  simp [bytesRow, hi]
def ReadPost (b : Nat) (D : Dk) (s : List UInt8) (w : World) (e : Ending) (w' : World) : Prop :=
  e = .returned (.tuple #[.string ⟨s.toArray⟩, .int .i64 0]) ∧ DiskAt w' b D.read ∧ Upd (· = b) w w'
set_option maxRecDepth 100000 in
set_option maxHeartbeats 1000000 in
theorem disk_Read (b : Nat) (D : Dk) (w : World) (n : List UInt8) (f : Fl) (p k : Nat) (h : DiskAt w b D) (hd : D.down = false) (hf : D.find n = some f) (hpk : p + k ≤ f.data.length) :
    Calls Tryz.prog 129 #[.pointer (some ⟨b, 0, none⟩), .string ⟨n.toArray⟩, .int .i64 p, .int .i64 k] w (ReadPost b D ((f.data.drop p).take k) w) := by
  have hm : f ∈ D.files := List.mem_of_find?_eq_some hf
  have hs := h.small
  have hlen := h.len hm
  have h' := h.read
  have hrd := disk_ready b D w h
  rw [hd] at hrd
  have HR := Lib.hid hrd
  have HF := Lib.hid (disk_find_some b D.read _ n f h' hd hf)
  have hu : Upd (· = b) w (w.setCell ⟨b, 4, none⟩ (.int .i64 (wrap64 (D.reads + 1)))) := Upd.setCell (S := (· = b)) (Upd.refl _ w) (.inl rfl) _
  have HH := Lib.hid h'
  have HU := Lib.hid hu
  have c4 : w.cell? ⟨b, 4, none⟩ = some (.int .i64 D.reads) := by rw [cell_of_block h.blk]; rfl
  have f4 : w.frozen? ⟨b, 4, none⟩ = false := frozen_of_block h.blk
  have hfc : (w.setCell ⟨b, 4, none⟩ (.int .i64 (wrap64 (D.reads + 1)))).heap[f.fb]? = some (.cells f.cells 162) := HH.out.file f hm
  have hdat : DataAt (w.setCell ⟨b, 4, none⟩ (.int .i64 (wrap64 (D.reads + 1)))) f.dv f.data := HH.out.data f hm
  have d0 : (w.setCell ⟨b, 4, none⟩ (.int .i64 (wrap64 (D.reads + 1)))).cell? ⟨f.fb, 0, none⟩ = some f.dv := by rw [cell_of_block hfc]; rfl
  clear hrd h h' hd hf hu hfc
  go_enter Tryz.func129, Tryz.ntmps129
  go_wp2_with fail
  refine HR.out.mono ?_
  rintro e w' ⟨rfl, rfl⟩
  simp only [Bool.false_eq_true, if_false]
  go_wp2_with fail
  refine HF.out.mono ?_
  rintro e w' ⟨rfl, rfl⟩
  rcases hdat with ⟨hv, hl⟩ | ⟨g, cap, cur, hv, hg, hlc, hcc, hcm, htake⟩
  · rw [hv] at d0
    have hp : p = 0 := by rw [hl] at hpk; simp at hpk; omega
    have hk0 : k = 0 := by rw [hl] at hpk; simp at hpk; omega
    subst hp hk0
    have hcn := convert_nil (w.setCell ⟨b, 4, none⟩ (.int .i64 (wrap64 (D.reads + 1)))) 0 0
    go_wp2_with fail
    go_ret2
    exact ⟨rfl, HH.out, HU.out⟩
  · rw [hv] at d0
    by_cases hcp : cap = p
    · have hk0 : k = 0 := by omega
      have hcv := convert_at (w := w.setCell ⟨b, 4, none⟩ (.int .i64 (wrap64 (D.reads + 1)))) (b := g) (off := 0) (n := 0) (cap := 0) (l := []) rfl (fun i h => by cases h)
      have HCP := Lib.hid hcp
      subst hk0
      have hle : cap ≤ p := by omega
      clear hcc hcm htake hg hv
      go_wp2_with fail
      go_ret2
      exact ⟨rfl, HH.out, HU.out⟩
    · have hcv := convert_at (w := w.setCell ⟨b, 4, none⟩ (.int .i64 (wrap64 (D.reads + 1)))) (b := g) (off := p) (n := k) (cap := cap - p) (l := (f.data.drop p).take k) (by simp; omega) (fun i hi => by
        have hi' : i < k := by simp at hi; omega
        rw [cell_of_block hg, cell_of_take htake (by omega)]
        simp)
      clear hcc hcm htake hg hv
      go_wp2_with fail
      go_ret2
      exact ⟨rfl, HH.out, HU.out⟩

theorem run_next_none (P : Program) (w : World) (ty : TypeId) (bm c : Nat) (hb : w.heap[bm]? = some (.map #[] c)) :
    (Instr.next (.pointer (some ⟨w.heap.size, 0, none⟩)) false ty).run P (w.alloc (.mapIter (some bm) c #[] c)) = .ok (.tuple #[.bool false]) (w.alloc (.mapIter (some bm) c #[] c)) := by
  rcases run_next_map (P := P) w ty bm c c #[] #[] c hb (fun x hx => by simp at hx) (Nat.le_refl _) with h | ⟨e, he, _⟩
  · exact h.2
  · simp [leftOf] at he
set_option maxRecDepth 100000 in
set_option maxHeartbeats 1000000 in
theorem disk_Names_none (b : Nat) (D : Dk) (w : World) (h : DiskAt w b D) (he : D.files = []) :
    Calls Tryz.prog 98 #[.pointer (some ⟨b, 0, none⟩)] w fun e w' => e = .returned (.slice none 0 0) ∧ Below w.heap.size w w' := by
  have c3 : w.cell? ⟨b, 3, none⟩ = some (.map (some D.bM)) := by rw [cell_of_block h.blk]; rfl
  have HN := Lib.hid (disk_none b D w h)
  have hM : w.heap[D.bM]? = some (.map #[] D.clk) := by have := h.map; rw [he] at this; exact this
  have hra := run_range_map (P := Tryz.prog) w 157 _ _ D.bM #[] D.clk Tryz.underlying157 hM
  have hne := run_next_none Tryz.prog w 0 D.bM D.clk hM
  clear h he hM
  go_enter Tryz.func98, Tryz.ntmps98
  go_wp2_with fail
  refine HN.out.mono ?_
  rintro e w' ⟨rfl, rfl⟩
  go_wp2_with fail
  refine wp_loop_once ?_
  go_wp2_with fail
  refine (slices_Sort_one none 0 0 _ (by omega)).mono ?_
  rintro e w' ⟨rfl, rfl⟩
  clear hra hne
  go_wp2_with fail
  go_ret
  exact ⟨rfl, (Below.refl _ _).alloc (Nat.le_refl _) _⟩
end Go.Proofs.YtamlhndibcafgaaGreatDoor
