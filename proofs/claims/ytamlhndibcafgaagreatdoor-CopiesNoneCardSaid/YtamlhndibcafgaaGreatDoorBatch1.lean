/- Contracts of package batches: Put. -/
import Derived.Test.YtamlhndibcafgaaGreatDoorBatch0
namespace Go.Proofs.YtamlhndibcafgaaGreatDoor
open Go.RowKit Go.MapKept

def putB (st : List UInt8) (first : Nat) (l : List Ev) : List UInt8 := textL st ++ be 8 first ++ be 1 l.length ++ (l.map bytesE).flatten
theorem textL_length (l : List UInt8) (h : l.length ≤ 65535) : (textL l).length = 2 + l.length := by
  unfold textL; rw [if_neg (by omega)]; simp
theorem bytesE_le (e : Ev) : (bytesE e).length ≤ 228 := by
  unfold bytesE
  by_cases h : checkE e = 0
  · rw [if_pos h]
    have h1 : e.ty.length ≤ 16 ∧ e.da.length ≤ 200 := by
      unfold checkE at h
      split at h
      · cases h
      · split at h
        · cases h
        · omega
    have h2 := textL_le e.ty
    have h3 := textL_le e.da
    simp only [List.length_append, be_length]; omega
  · rw [if_neg h]; simp
theorem flat_le (l : List Ev) : ((l.map bytesE).flatten).length ≤ l.length * 228 := by
  induction l with
  | nil => simp
  | cons x l ih =>
    have := bytesE_le x
    simp only [List.map_cons, List.flatten_cons, List.length_append, List.length_cons]
    omega
set_option maxRecDepth 100000 in
set_option maxHeartbeats 1000000 in
theorem batches_Put (st : List UInt8) (first : Nat) (l : List Ev) (v : Value) (w : World) (hv : EvsAt w v l) (h1 : st ≠ []) (h2 : l ≠ []) (h3 : st.length ≤ 32) (h4 : l.length ≤ 8) (h5 : first + l.length ≤ 1073741824)
    (hs : ∀ e ∈ l, e.ty.length ≤ 1048576 ∧ e.da.length ≤ 1048576) (hok : firstBad l = 0) :
    Calls Tryz.prog 81 #[.agg #[.string ⟨st.toArray⟩, .int .i64 first, v]] w fun e w' => e = .returned (.tuple #[.string ⟨(putB st first l).toArray⟩, .int .i64 0]) ∧ Below w.heap.size w w' := by
  have hB := (Below.refl w.heap.size w).alloc (Nat.le_refl _) (.cells #[.string ⟨st.toArray⟩, .int .i64 first, v] 132)
  obtain ⟨b, off, cap, rfl, hb, hmany, hcells⟩ := hv
  have HC := Lib.hid hcells
  have hcheck := Lib.hid (batches_Check_in st first l (.slice (some ⟨b, off, none⟩) l.length cap) (w.alloc (.cells #[.string ⟨st.toArray⟩, .int .i64 first, .slice (some ⟨b, off, none⟩) l.length cap] 132))
    ⟨b, off, cap, rfl, by simp; omega, hmany, fun i h => ⟨(hB.cell (p := ⟨b, _, none⟩) hb).trans (hcells i h).1, (hB.cell (p := ⟨b, _, none⟩) hb).trans (hcells i h).2.1, (hB.cell (p := ⟨b, _, none⟩) hb).trans (hcells i h).2.2⟩⟩ h1 h2 h3 h4 h5 hs)
  rw [hok] at hcheck
  have hk := blk_new (w := w) rfl (.cells #[.string ⟨st.toArray⟩, .int .i64 first, .slice (some ⟨b, off, none⟩) l.length cap] 132)
  obtain ⟨W, hW⟩ : ∃ W, w.alloc (.cells #[.string ⟨st.toArray⟩, .int .i64 first, .slice (some ⟨b, off, none⟩) l.length cap] 132) = W := ⟨_, rfl⟩
  rw [hW] at hB hcheck hk
  have HW := Lib.hid hW
  have HB := Lib.hid hB
  have HK := Lib.hid hk
  have hsz : W.heap.size = w.heap.size + 1 := by rw [← hW]; simp
  have HSZ := Lib.hid hsz
  have HS := Lib.hid hs
  have htl := textL_length st (by omega)
  have HP8 : Hid (∀ w', Calls Tryz.prog 33 #[.int .u64 first, .int .i64 8] w' fun e w'' => e = .returned (.string ⟨(be 8 first).toArray⟩) ∧ Below w'.heap.size w' w'') := Lib.hid (fun w' => nums_Put first 8 w' (by omega) (by omega))
  have HP1 : Hid (∀ w', Calls Tryz.prog 33 #[.int .u64 l.length, .int .i64 1] w' fun e w'' => e = .returned (.string ⟨(be 1 l.length).toArray⟩) ∧ Below w'.heap.size w' w'') := Lib.hid (fun w' => nums_Put l.length 1 w' (by omega) (by omega))
  clear hcells hB hk hW hsz hs hok h1 h2
  go_enter Tryz.func81, Tryz.ntmps81
  go_wp2_with fail
  rw [HW.out]
  refine hcheck.out.mono ?_
  rintro e w1 ⟨rfl, hb1⟩
  have HK1 := Lib.hid (blk_kept hb1 HK.out)
  have HB1 := Lib.hid (HB.out.trans (hb1.mono HB.out.size))
  have hsz1 : w.heap.size < w1.heap.size := by have := hb1.size; have := HSZ.out; omega
  clear hb1 hcheck HW
  have HKEEP : Hid (∀ w', Below w1.heap.size w1 w' → w'.cell? ⟨w.heap.size, 0, none⟩ = some (.string ⟨st.toArray⟩) ∧ w'.cell? ⟨w.heap.size, 1, none⟩ = some (.int .i64 first) ∧ w'.cell? ⟨w.heap.size, 2, none⟩ = some (.slice (some ⟨b, off, none⟩) l.length cap)) := Lib.hid (fun w' hb => by
    have := blk_kept hb HK1.out
    exact ⟨by rw [cell_of_block this]; rfl, by rw [cell_of_block this]; rfl, by rw [cell_of_block this]; rfl⟩)
  have hl1 : ¬ 9223372036854775807 < (textL st).length + 8 := by omega
  have hl2 : ¬ 9223372036854775807 < (textL st).length + 8 + 1 := by omega
  have hl3 : ¬ 9223372036854775807 < 2 + st.length + 8 := by omega
  have hl4 : ¬ 9223372036854775807 < 2 + st.length + 8 + 1 := by omega
  have hl5 : ¬ 9223372036854775807 < 2 + st.length + (8 + 1) := by omega
  go_wp2_with fail
  have e1 : IntKind.u64.wrap (first : Int) = first := by simp [IntKind.wrap, IntKind.bits, IntKind.signed]; omega
  have e2 : IntKind.u64.wrap (l.length : Int) = l.length := by simp [IntKind.wrap, IntKind.bits, IntKind.signed]; omega
  go_region_held3 (fun w' => w'.cell? ⟨w.heap.size, 0, none⟩ = some (.string ⟨st.toArray⟩) ∧ w'.cell? ⟨w.heap.size, 1, none⟩ = some (.int .i64 first) ∧ w'.cell? ⟨w.heap.size, 2, none⟩ = some (.slice (some ⟨b, off, none⟩) l.length cap))
    (first | exact HKEEP.out _ (Below.refl _ _).drew | exact HKEEP.out _ (Below.refl _ _) | exact HKEEP.out _ (((((Below.refl _ _).drew.trans hbt).trans (hbp.mono hbt.size))).trans (hbq.mono (Nat.le_trans hbt.size hbp.size))) | exact HKEEP.out _ (((Below.refl _ _).drew.trans hbt).trans (hbp.mono hbt.size)) | exact HKEEP.out _ ((Below.refl _ _).drew.trans hbt))
    ((first | (go_at_call 36; refine (nums_Text st _ (by unfold maxLen; omega)).mono ?_; rintro e w2 ⟨rfl, hbt⟩)
            | (go_at_call 33; with_reducible refine (HP8.out _).mono ?_; rintro e w3 ⟨rfl, hbp⟩)
            | (go_at_call 33; with_reducible refine (HP1.out _).mono ?_; rintro e w4 ⟨rfl, hbq⟩)))
  all_goals
    clear e1 e2
    have hBr : Below w1.heap.size w1 w4 := (((Below.refl _ _).drew.trans hbt).trans (hbp.mono hbt.size)).trans (hbq.mono (Nat.le_trans hbt.size hbp.size))
    have HB4 := Lib.hid (HB1.out.trans (hBr.mono (Nat.le_of_lt hsz1)))
    have c2 := (HKEEP.out w4 hBr).2.2
    obtain ⟨s0, hs0⟩ : ∃ s0, textL st ++ be 8 first ++ be 1 l.length = s0 := ⟨_, rfl⟩
    have hs0l : s0.length ≤ 43 := by rw [← hs0]; simp [htl]; omega
    have HP0 := Lib.hid (show putB st first l = s0 ++ (l.map bytesE).flatten by rw [putB, hs0])
    have HAS : Hid (textL st ++ (be 8 first ++ be 1 l.length) = s0) := Lib.hid (by rw [← List.append_assoc]; exact hs0)
    have HAS2 := Lib.hid hs0
    clear hs0 hbt hbp hbq hBr
    try rw [HAS.out]
    try rw [HAS2.out]
    rename_i hHeld
    clear hHeld hl1 hl2 hl3 hl4 hl5
    go_wp2_with fail
    go_loopw [5, 30] (fun sv iv wr => ∃ k : Nat, k ≤ l.length ∧ iv = .int .i64 k ∧ sv = .string ⟨(s0 ++ ((l.take k).map bytesE).flatten).toArray⟩ ∧ Below w.heap.size w wr) (fun _ iv _ => l.length - (intOf iv).toNat)
    case atStart => exact ⟨0, by omega, rfl, by simp, HB4.out⟩
    case round =>
      obtain ⟨k, hk, rfl, rfl, hB⟩ := hrel
      have HB5 := Lib.hid hB
      clear hB
      by_cases hlt : k < l.length
      · obtain ⟨d0, d1, d2⟩ := HC.out k hlt
        have c0 := (HB5.out.cell (p := ⟨b, off + k * 3, none⟩) hb).trans d0
        have c1 := (HB5.out.cell (p := ⟨b, off + k * 3 + 1, none⟩) hb).trans d1
        have c3 := (HB5.out.cell (p := ⟨b, off + k * 3 + 2, none⟩) hb).trans d2
        have hsz := HS.out l[k] (List.getElem_mem hlt)
        have HT := Lib.hid (show s0 ++ (((l.take k).map bytesE).flatten ++ bytesE l[k]) = s0 ++ ((l.take (k + 1)).map bytesE).flatten by
          rw [List.take_succ_eq_append_getElem hlt, List.map_append, List.flatten_append]; simp only [List.map_cons, List.map_nil, List.flatten_cons, List.flatten_nil, List.append_nil])
        have hfl := flat_le (l.take k)
        have hbl := bytesE_le l[k]
        have htk : (l.take k).length ≤ 8 := by rw [List.length_take]; omega
        obtain ⟨x, hx⟩ : ∃ x, l[k] = x := ⟨_, rfl⟩
        rw [hx] at c0 c1 c3 hsz HT hbl
        generalize ((l.take k).map bytesE).flatten = fl at *
        have hk0 : (0 : Int) ≤ k := by omega
        have hk2 : (k : Int) < l.length := by omega
        have hle : ¬ 9223372036854775807 < s0.length + fl.length + (bytesE x).length := by omega
        have hle2 : ¬ 9223372036854775807 < s0.length + (fl.length + (bytesE x).length) := by omega
        have HBA := Lib.hid (HB5.out.alloc HB5.out.size (.cells #[.string ⟨x.ty.toArray⟩, .string ⟨x.da.toArray⟩, .float .f64 x.wt] 77))
        clear d0 d1 d2 hx hfl hbl htk
        go_wp2_with fail
        refine (events_Bytes x _ (by unfold maxLen; omega) (by unfold maxLen; omega)).mono ?_
        rintro e w6 ⟨rfl, hb6⟩
        have HB6 := Lib.hid (HBA.out.trans (hb6.mono HBA.out.size))
        clear hb6 c0 c1 c3
        go_wp2_with fail
        go_roundw
        case rel => exact ⟨k + 1, by omega, by go_num, by rw [← HT.out], HB6.out⟩
        case measure => simp [intOf]; omega
      · obtain rfl : k = l.length := by omega
        have HE := Lib.hid (show s0 ++ ((l.take l.length).map bytesE).flatten = putB st first l by rw [List.take_length, HP0.out])
        rw [HE.out]
        go_wp2_with fail
        go_ret2
        exact ⟨rfl, HB5.out⟩
end Go.Proofs.YtamlhndibcafgaaGreatDoor
