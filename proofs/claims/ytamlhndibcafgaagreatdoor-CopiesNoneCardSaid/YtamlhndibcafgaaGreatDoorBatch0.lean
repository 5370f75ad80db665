/- Contracts of package batches: Check. -/
import Derived.Test.YtamlhndibcafgaaGreatDoorMem1
namespace Go.Proofs.YtamlhndibcafgaaGreatDoor
open Go.RowKit Go.MapKept

/-- Events in a row of memory. -/
def EvsAt (w : World) (v : Value) (l : List Ev) : Prop :=
  ∃ b off cap, v = .slice (some ⟨b, off, none⟩) l.length cap ∧ b < w.heap.size ∧ l.length ≤ 1000000 ∧ ∀ i (h : i < l.length),
    w.cell? ⟨b, off + i * 3, none⟩ = some (.string ⟨l[i].ty.toArray⟩) ∧ w.cell? ⟨b, off + i * 3 + 1, none⟩ = some (.string ⟨l[i].da.toArray⟩) ∧ w.cell? ⟨b, off + i * 3 + 2, none⟩ = some (.float .f64 l[i].wt)
def firstBad : List Ev → Nat
  | [] => 0
  | x :: l => if checkE x = 0 then firstBad l else checkE x
theorem firstBad_at : ∀ (l : List Ev) (k : Nat) (h : k < l.length), (∀ j (hj : j < k), checkE (l[j]'(Nat.lt_trans hj h)) = 0) → checkE l[k] ≠ 0 → firstBad l = checkE l[k] := by
  intro l
  induction l with
  | nil => intro k h; simp at h
  | cons x l ih =>
    intro k h ha hb
    cases k with
    | zero => exact if_neg (show ¬ checkE x = 0 from hb)
    | succ k =>
      have h0 := ha 0 (by omega)
      rw [firstBad, if_pos (show checkE x = 0 from h0)]
      exact ih k (by simpa using h) (fun j hj => ha (j + 1) (by omega)) hb
theorem firstBad_none : ∀ (l : List Ev), (∀ j (hj : j < l.length), checkE l[j] = 0) → firstBad l = 0 := by
  intro l
  induction l with
  | nil => intro _; rfl
  | cons x l ih =>
    intro h
    rw [firstBad, if_pos (show checkE x = 0 from h 0 (by simp))]
    exact ih (fun j hj => h (j + 1) (by simpa using hj))
def checkB (st : List UInt8) (first : Nat) (l : List Ev) : Nat :=
  if st = [] ∨ l = [] then 2
  else if 32 < st.length ∨ 8 < l.length then 3
  else if 1073741824 < first + l.length then 2
  else firstBad l
set_option maxRecDepth 100000 in
set_option maxHeartbeats 2000000 in
theorem batches_Check_in (st : List UInt8) (first : Nat) (l : List Ev) (v : Value) (w : World) (hv : EvsAt w v l) (h1 : st ≠ []) (h2 : l ≠ []) (h3 : st.length ≤ 32) (h4 : l.length ≤ 8) (h5 : first + l.length ≤ 1073741824)
    (hs : ∀ e ∈ l, e.ty.length ≤ 1048576 ∧ e.da.length ≤ 1048576) :
    Calls Tryz.prog 79 #[.agg #[.string ⟨st.toArray⟩, .int .i64 first, v]] w fun e w' => e = .returned (.int .i64 (firstBad l)) ∧ Below w.heap.size w w' := by
  obtain ⟨b, off, cap, rfl, hb, hmany, hcells⟩ := hv
  have h1' : st.isEmpty = false := by simpa using h1
  have hl0 : 0 < l.length := List.length_pos_iff.2 h2
  have h2' : ((l.length : Int) == 0) = false := by simp; omega
  have hst : (st == []) = false := by simpa using h1
  have HC := Lib.hid hcells
  have HS := Lib.hid hs
  clear h1 h2 hcells hs
  go_enter Tryz.func79, Tryz.ntmps79
  go_wp2_with fail
  go_step3
  go_wp2_with fail
  go_step3
  go_wp2_with fail
  go_loopw [2, 36] (fun ev iv wr => ∃ k : Nat, k ≤ l.length ∧ iv = .int .i64 k ∧ ev = .int .i64 0 ∧ (∀ j (hj : j < l.length), j < k → checkE l[j] = 0) ∧ Below w.heap.size w wr) (fun _ iv _ => l.length - (intOf iv).toNat)
  case atStart => exact ⟨0, by omega, rfl, rfl, fun j _ hj => by omega, (Below.refl _ _).alloc (Nat.le_refl _) _⟩
  case round =>
    obtain ⟨k, hk, rfl, rfl, hok, hB⟩ := hrel
    have HOK := Lib.hid hok
    have HB := Lib.hid hB
    clear hok hB
    by_cases hlt : k < l.length
    · obtain ⟨d0, d1, d2⟩ := HC.out k hlt
      have c0 := (HB.out.cell (p := ⟨b, off + k * 3, none⟩) hb).trans d0
      have c1 := (HB.out.cell (p := ⟨b, off + k * 3 + 1, none⟩) hb).trans d1
      have c2 := (HB.out.cell (p := ⟨b, off + k * 3 + 2, none⟩) hb).trans d2
      have hsz := HS.out l[k] (List.getElem_mem hlt)
      obtain ⟨x, hx⟩ : ∃ x, l[k] = x := ⟨_, rfl⟩
      have HX := Lib.hid hx
      rw [hx] at c0 c1 c2 hsz
      have hk0 : (0 : Int) ≤ k := by omega
      have hk2 : (k : Int) < l.length := by omega
      have HBA := Lib.hid (HB.out.alloc HB.out.size (.cells #[.string ⟨x.ty.toArray⟩, .string ⟨x.da.toArray⟩, .float .f64 x.wt] 77))
      clear d0 d1 d2 hx
      go_wp2_with fail
      refine (events_Check x _ (by unfold maxLen; omega) (by unfold maxLen; omega)).mono ?_
      rintro e w2 ⟨rfl, hb2⟩
      have HB2 := Lib.hid (HBA.out.trans (hb2.mono HBA.out.size))
      clear hb2 c0 c1 c2
      by_cases hc : checkE x = 0
      · have HN : Hid (∀ j (hj : j < l.length), j < k + 1 → checkE l[j] = 0) := Lib.hid (fun j hj hjk => by
          by_cases h : j < k
          · exact HOK.out j hj h
          · obtain rfl : j = k := by omega
            rw [HX.out]; exact hc)
        rw [hc]
        go_wp2_with fail
        go_roundw
        case rel => exact ⟨k + 1, by omega, by go_num, rfl, HN.out, HB2.out⟩
        case measure => simp [intOf]; omega
      · have HE := Lib.hid (show firstBad l = checkE x by
          have := firstBad_at l k hlt (fun j hj => HOK.out j (Nat.lt_trans hj hlt) hj) (by rw [HX.out]; exact hc)
          rw [this, HX.out])
        have hc2 : ((checkE x : Nat) : Int) ≠ 0 := by omega
        have hc3 : (((checkE x : Nat) : Int) == 0) = false := by simp; omega
        generalize checkE x = c at *
        go_wp2_with fail
        rw [Exit.noGoto_ret]
        go_ret
        exact ⟨ret_int (by rw [HE.out]), HB2.out⟩
    · have HE := Lib.hid (firstBad_none l (fun j hj => HOK.out j hj (by omega)))
      go_wp2_with fail
      rw [Exit.noGoto_ret]
      go_ret
      exact ⟨ret_int (by rw [HE.out]; rfl), HB.out⟩
end Go.Proofs.YtamlhndibcafgaaGreatDoor
