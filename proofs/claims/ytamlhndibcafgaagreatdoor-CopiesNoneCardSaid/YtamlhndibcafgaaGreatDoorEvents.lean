/- Contracts of the packages names (Stream) and events. -/
import Derived.Test.YtamlhndibcafgaaGreatDoorNums
import Derived.Laws.ResultCell
namespace Go.Proofs.YtamlhndibcafgaaGreatDoor
open Go.RowKit

abbrev Ev.val (e : Ev) : Value := .agg #[.string ⟨e.ty.toArray⟩, .string ⟨e.da.toArray⟩, .float .f64 e.wt]
theorem ret_bool {a b : Bool} (h : a = b) : Ending.returned (.bool a) = .returned (.bool b) := by rw [h]

set_option maxHeartbeats 400000 in
theorem names_Stream (l : List UInt8) (w : World) (hl : l.length ≤ maxLen) :
    Calls Tryz.prog 34 #[.string ⟨l.toArray⟩] w fun e w' => e = .returned (.bool (streamB l)) ∧ w = w' := by
  unfold maxLen at hl
  go_enter Tryz.func34, Tryz.ntmps34
  go_wp2_with fail
  all_goals
    go_ret
    refine ⟨ret_bool ?_, rfl⟩
  · have h : l = [] := by assumption
    subst h; rfl
  · have h : ¬ l = [] := by assumption
    have hi : l.isEmpty = false := by simpa using h
    rw [hi]
    by_cases h2 : l.length ≤ 32
    · have h3 : (l.length : Int) ≤ 32 := by omega
      simp [streamB, h, h2, h3]
    · have h3 : ¬ (l.length : Int) ≤ 32 := by omega
      simp only [streamB, h3]
      simp [h2]

theorem checkE_empty {e : Ev} (h : e.ty.isEmpty = true) : checkE e = 2 := by
  have : e.ty = [] := by simpa using h
  simp [checkE, this]
theorem checkE_long {e : Ev} (h : e.ty.isEmpty = false) (h2 : 16 < e.ty.length ∨ 200 < e.da.length) : checkE e = 3 := by
  have : ¬ e.ty = [] := by intro h'; rw [h'] at h; cases h
  rw [checkE, if_neg this, if_pos h2]
theorem checkE_ok {e : Ev} (h : e.ty.isEmpty = false) (h2 : e.ty.length ≤ 16) (h3 : e.da.length ≤ 200) : checkE e = 0 := by
  have : ¬ e.ty = [] := by intro h'; rw [h'] at h; cases h
  rw [checkE, if_neg this, if_neg (by omega)]
theorem checkE_zero {e : Ev} (h : checkE e = 0) : e.ty ≠ [] ∧ e.ty.length ≤ 16 ∧ e.da.length ≤ 200 := by
  unfold checkE at h
  split at h
  · omega
  · split at h
    · omega
    · exact ⟨by assumption, by omega, by omega⟩
theorem checkE_lt (e : Ev) : checkE e < 4 := by unfold checkE; split; omega; split <;> omega

set_option maxHeartbeats 400000 in
theorem events_Check (e : Ev) (w : World) (h1 : e.ty.length ≤ maxLen) (h2 : e.da.length ≤ maxLen) :
    Calls Tryz.prog 35 #[e.val] w fun r w' => r = .returned (.int .i64 (checkE e)) ∧ Below w.heap.size w w' := by
  unfold maxLen at h1 h2
  unfold Ev.val
  go_enter Tryz.func35, Tryz.ntmps35
  go_wp2_with fail
  all_goals
    go_ret
    refine ⟨ret_int ?_, (Below.refl _ _).alloc (Nat.le_refl _) _⟩
  · rw [checkE_empty (by assumption)]; rfl
  · rw [checkE_long (by assumption) (by omega)]; rfl
  · rw [checkE_long (by assumption) (by omega)]; rfl
  · rw [checkE_ok (by assumption) (by omega) (by omega)]; rfl

@[go_sem] theorem run_f64bits (n : Nat) (w : World) : (callFunc 86 #[.float .f64 n]).run Tryz.prog w = .ok (.value (.int .u64 n)) w := by
  rw [run_callFunc_extern (e := Extern.MathFloatBits.float64bits) Tryz.func86 (by kernel_rfl) (by kernel_rfl) (by kernel_rfl) (by kernel_rfl)]
  rfl
@[go_sem] theorem run_f64from (n : Nat) (w : World) : (callFunc 91 #[.int .u64 n]).run Tryz.prog w = .ok (.value (.float .f64 n)) w := by
  rw [run_callFunc_extern (e := Extern.MathFloatBits.float64frombits) Tryz.func91 (by kernel_rfl) (by kernel_rfl) (by kernel_rfl) (by kernel_rfl)]
  rfl
theorem keep3 {w1 W w' : World} {a b c : Addr} {x y z : Value} (h : Below w1.heap.size w1 W ∧ W.cell? a = some x ∧ W.cell? b = some y ∧ W.cell? c = some z) (hb : Below W.heap.size W w') :
    Below w1.heap.size w1 w' ∧ w'.cell? a = some x ∧ w'.cell? b = some y ∧ w'.cell? c = some z :=
  ⟨h.1.trans (hb.mono h.1.size), (hb.cell (World.block_lt_of_cell? W _ h.2.1)).trans h.2.1, (hb.cell (World.block_lt_of_cell? W _ h.2.2.1)).trans h.2.2.1, (hb.cell (World.block_lt_of_cell? W _ h.2.2.2)).trans h.2.2.2⟩
set_option maxRecDepth 100000 in
set_option maxHeartbeats 400000 in
theorem events_Bytes (e : Ev) (w : World) (h1 : e.ty.length ≤ maxLen) (h2 : e.da.length ≤ maxLen) :
    Calls Tryz.prog 37 #[e.val] w fun r w' => r = .returned (.string ⟨(bytesE e).toArray⟩) ∧ Below w.heap.size w w' := by
  by_cases h0 : checkE e = 0
  · unfold maxLen at h1 h2
    have H0 := Lib.hid h0
    obtain ⟨-, l1, l2⟩ := checkE_zero h0
    clear h0
    have t1 := textL_le e.ty
    have t2 := textL_le e.da
    have n1 : ¬ 9223372036854775807 < (textL e.ty).length + (textL e.da).length := by omega
    have n2 : ¬ 9223372036854775807 < (textL e.ty).length + (textL e.da).length + 8 := by omega
    have n3 : ¬ 9223372036854775807 < (textL e.ty).length + ((textL e.da).length + 8) := by omega
    go_enter Tryz.func37, Tryz.ntmps37
    go_wp2_with fail
    refine (events_Check e _ h1 h2).mono ?_
    rintro r w1 ⟨rfl, hb⟩
    rw [H0.out]
    have hk := blk_after hb
    have hz := size_after hb
    have hbb := below_after hb
    have c0 : w1.cell? ⟨w.heap.size, 0, none⟩ = some (.string ⟨e.ty.toArray⟩) := by rw [cell_of_block hk]; rfl
    have c1 : w1.cell? ⟨w.heap.size, 1, none⟩ = some (.string ⟨e.da.toArray⟩) := by rw [cell_of_block hk]; rfl
    have c2 : w1.cell? ⟨w.heap.size, 2, none⟩ = some (.float .f64 e.wt) := by rw [cell_of_block hk]; rfl
    have HK := Lib.hid hk
    clear hk hb
    go_wp2_with fail
    go_region_held3 (fun w' => Below w1.heap.size w1 w' ∧ w'.cell? ⟨w.heap.size, 0, none⟩ = some (.string ⟨e.ty.toArray⟩) ∧ w'.cell? ⟨w.heap.size, 1, none⟩ = some (.string ⟨e.da.toArray⟩) ∧ w'.cell? ⟨w.heap.size, 2, none⟩ = some (.float .f64 e.wt)) (first | exact ⟨(Below.refl _ _).drew, c0, c1, c2⟩ | assumption | (refine keep3 ?_ hb2; assumption))
      ((first | (go_at_call 36; refine (nums_Text _ _ (by simp [maxLen]; omega)).mono ?_; rintro e w' ⟨rfl, hb2⟩) | (go_at_call 33; refine (nums_Put _ 8 _ (by omega) (by omega)).mono ?_; rintro e w' ⟨rfl, hb2⟩)))
    go_wp2_with fail
    go_ret
    have hh : Below w1.heap.size w1 w' := by rename_i hh; exact hh.1
    exact ⟨ret_str (by unfold bytesE; rw [if_pos H0.out, List.append_assoc]), hbb.trans (hh.mono (by omega))⟩
  · have hne : ((checkE e : Int) != 0) = true := by rw [bne_iff_ne]; omega
    go_enter Tryz.func37, Tryz.ntmps37
    go_wp2_with fail
    refine (events_Check e _ h1 h2).mono ?_
    rintro r w1 ⟨rfl, hb⟩
    have hbb := below_after hb
    go_wp2_with fail
    go_ret
    exact ⟨ret_str (a := []) (by unfold bytesE; rw [if_neg h0]), hbb⟩

def noneE : Value := .tuple #[.agg #[.string ⟨#[]⟩, .string ⟨#[]⟩, .float .f64 0], .string ⟨#[]⟩, .bool false]

theorem beN_take8 (l : List UInt8) : List.take 8 (List.take 8 l) = List.take 8 l := by rw [List.take_take]; rfl
theorem below_set3 {w w1 : World} (h : Below w.heap.size w w1) (x y z : Value) :
    Below w.heap.size w (((w1.setCell ⟨w.heap.size, 0, none⟩ x).setCell ⟨w.heap.size, 1, none⟩ y).setCell ⟨w.heap.size, 2, none⟩ z) :=
  ((h.setCell (Nat.le_refl _) _).setCell (Nat.le_refl _) _).setCell (Nat.le_refl _) _
set_option maxHeartbeats 1000000 in
theorem events_Read_none (s : List UInt8) (w : World) (hs : s.length ≤ maxLen) (h : readE s = none) :
    Calls Tryz.prog 51 #[.string ⟨s.toArray⟩] w fun r w' => r = .returned noneE ∧ Below w.heap.size w w' := by
  unfold readE at h
  cases h1 : readL s with
  | none =>
    clear h
    go_enter Tryz.func51, Tryz.ntmps51
    go_wp2_with fail
    refine (nums_Read_none _ _ hs h1).mono ?_
    rintro r w1 ⟨rfl, rfl⟩
    clear h1
    go_wp2_with fail
    exact bodyPost_ret (v := noneE) (by simp [results, Tryz.results51, go_sem, noneE]) rfl ⟨rfl, (Below.refl _ _).alloc (Nat.le_refl _) _⟩
  | some p =>
    obtain ⟨ty, r1⟩ := p
    rw [h1] at h
    dsimp only at h
    have hr := readL_some h1
    have hl1 : r1.length ≤ s.length := by rw [hr.2.2.2]; simp only [List.length_drop]; omega
    have hl1' : ty.length ≤ s.length := by rw [hr.2.2.1]; simp only [List.length_take, List.length_drop]; omega
    clear hr
    cases h2 : readL r1 with
    | none =>
      clear h
      go_enter Tryz.func51, Tryz.ntmps51
      go_wp2_with fail
      refine (nums_Read_some _ _ _ _ hs h1).mono ?_
      rintro r w1 ⟨rfl, hb⟩
      clear h1
      have hk := blk_after hb
      have hbb := below_after hb
      go_wp2_with fail
      refine (nums_Read_none _ _ (by omega) h2).mono ?_
      rintro r w' ⟨rfl, rfl⟩
      clear h2 hb
      have b_c0 : World.cell? w1 ⟨w.heap.size, 0, none⟩ = some (.string ⟨#[]⟩) := by rw [cell_of_block hk]; rfl
      have b_f0 : World.frozen? w1 ⟨w.heap.size, 0, none⟩ = false := frozen_of_block hk
      have b_c1 : World.cell? w1 ⟨w.heap.size, 1, none⟩ = some (.string ⟨#[]⟩) := by rw [cell_of_block hk]; rfl
      have b_f1 : World.frozen? w1 ⟨w.heap.size, 1, none⟩ = false := frozen_of_block hk
      have b_c2 : World.cell? w1 ⟨w.heap.size, 2, none⟩ = some (.float .f64 0) := by rw [cell_of_block hk]; rfl
      have b_f2 : World.frozen? w1 ⟨w.heap.size, 2, none⟩ = false := frozen_of_block hk
      clear hk
      go_wp2_with fail
      exact bodyPost_ret (v := noneE) (by simp [results, Tryz.results51, go_sem, noneE, b_c0, b_c1, b_c2]) rfl ⟨rfl, below_set3 hbb _ _ _⟩
    | some p =>
      obtain ⟨da, r2⟩ := p
      rw [h2] at h
      dsimp only at h
      have hr := readL_some h2
      have hl2 : r2.length ≤ r1.length := by rw [hr.2.2.2]; simp only [List.length_drop]; omega
      have hl2' : da.length ≤ r1.length := by rw [hr.2.2.1]; simp only [List.length_take, List.length_drop]; omega
      clear hr
      by_cases h8 : r2.length < 8
      · clear h
        go_enter Tryz.func51, Tryz.ntmps51
        go_wp2_with fail
        refine (nums_Read_some _ _ _ _ hs h1).mono ?_
        rintro r w1 ⟨rfl, hb⟩
        clear h1
        have hk := blk_after hb
        have hbb := below_after hb
        go_wp2_with fail
        refine (nums_Read_some _ _ _ _ (by omega) h2).mono ?_
        rintro r w2 ⟨rfl, hb2⟩
        clear h2 hb
        replace hk := blk_kept hb2 hk
        replace hbb := hbb.trans (hb2.mono hbb.size)
        clear hb2
        have b_c0 : World.cell? w2 ⟨w.heap.size, 0, none⟩ = some (.string ⟨#[]⟩) := by rw [cell_of_block hk]; rfl
        have b_f0 : World.frozen? w2 ⟨w.heap.size, 0, none⟩ = false := frozen_of_block hk
        have b_c1 : World.cell? w2 ⟨w.heap.size, 1, none⟩ = some (.string ⟨#[]⟩) := by rw [cell_of_block hk]; rfl
        have b_f1 : World.frozen? w2 ⟨w.heap.size, 1, none⟩ = false := frozen_of_block hk
        have b_c2 : World.cell? w2 ⟨w.heap.size, 2, none⟩ = some (.float .f64 0) := by rw [cell_of_block hk]; rfl
        have b_f2 : World.frozen? w2 ⟨w.heap.size, 2, none⟩ = false := frozen_of_block hk
        clear hk
        unfold maxLen at hs
        go_wp2_with fail
        exact bodyPost_ret (v := noneE) (by simp [results, Tryz.results51, go_sem, noneE, b_c0, b_c1, b_c2]) rfl ⟨rfl, below_set3 hbb _ _ _⟩
      · rw [if_neg h8] at h
        have hc : checkE ⟨ty, da, beN (r2.take 8)⟩ ≠ 0 := by
          intro hc; rw [if_pos hc] at h; cases h
        have hcb : ((checkE ⟨ty, da, beN (r2.take 8)⟩ : Int) != 0) = true := by rw [bne_iff_ne]; omega
        clear h hc
        go_enter Tryz.func51, Tryz.ntmps51
        go_wp2_with fail
        refine (nums_Read_some _ _ _ _ hs h1).mono ?_
        rintro r w1 ⟨rfl, hb⟩
        clear h1
        have hk := blk_after hb
        have hbb := below_after hb
        go_wp2_with fail
        refine (nums_Read_some _ _ _ _ (by omega) h2).mono ?_
        rintro r w2 ⟨rfl, hb2⟩
        clear h2 hb
        replace hk := blk_kept hb2 hk
        replace hbb := hbb.trans (hb2.mono hbb.size)
        clear hb2
        unfold maxLen at hs
        go_wp2_with fail
        refine (nums_Get _ _ (by simp [maxLen]; omega)).mono ?_
        rintro r w' ⟨rfl, rfl⟩
        rw [beN_take8]
        have b_c0 : World.cell? w2 ⟨w.heap.size, 0, none⟩ = some (.string ⟨#[]⟩) := by rw [cell_of_block hk]; rfl
        have b_f0 : World.frozen? w2 ⟨w.heap.size, 0, none⟩ = false := frozen_of_block hk
        have b_c1 : World.cell? w2 ⟨w.heap.size, 1, none⟩ = some (.string ⟨#[]⟩) := by rw [cell_of_block hk]; rfl
        have b_f1 : World.frozen? w2 ⟨w.heap.size, 1, none⟩ = false := frozen_of_block hk
        have b_c2 : World.cell? w2 ⟨w.heap.size, 2, none⟩ = some (.float .f64 0) := by rw [cell_of_block hk]; rfl
        have b_f2 : World.frozen? w2 ⟨w.heap.size, 2, none⟩ = false := frozen_of_block hk
        go_wp2_with fail
        generalize beN (r2.take 8) = n at *
        have hk3 := block_setCell (i := 2) (block_setCell (i := 1) (block_setCell (i := 0) hk (.string ⟨ty.toArray⟩)) (.string ⟨da.toArray⟩)) (.float .f64 n)
        have hb3 := below_set3 hbb (.string ⟨ty.toArray⟩) (.string ⟨da.toArray⟩) (.float .f64 n)
        generalize ((w2.setCell ⟨w.heap.size, 0, none⟩ (.string ⟨ty.toArray⟩)).setCell ⟨w.heap.size, 1, none⟩ (.string ⟨da.toArray⟩)).setCell ⟨w.heap.size, 2, none⟩ (.float .f64 n) = w3 at *
        replace hk3 : w3.heap[w.heap.size]? = some (.cells #[.string ⟨ty.toArray⟩, .string ⟨da.toArray⟩, .float .f64 n] 77) := hk3
        clear hk b_c0 b_c1 b_c2 b_f0 b_f1 b_f2 hbb
        refine (events_Check ⟨ty, da, n⟩ _ (by unfold maxLen; dsimp only; omega) (by unfold maxLen; dsimp only; omega)).mono ?_
        rintro r w4 ⟨rfl, hb4⟩
        replace hk3 := blk_kept hb4 hk3
        replace hb3 := hb3.trans (hb4.mono hb3.size)
        clear hb4
        have b_c0 : World.cell? w4 ⟨w.heap.size, 0, none⟩ = some (.string ⟨ty.toArray⟩) := by rw [cell_of_block hk3]; rfl
        have b_f0 : World.frozen? w4 ⟨w.heap.size, 0, none⟩ = false := frozen_of_block hk3
        have b_c1 : World.cell? w4 ⟨w.heap.size, 1, none⟩ = some (.string ⟨da.toArray⟩) := by rw [cell_of_block hk3]; rfl
        have b_f1 : World.frozen? w4 ⟨w.heap.size, 1, none⟩ = false := frozen_of_block hk3
        have b_c2 : World.cell? w4 ⟨w.heap.size, 2, none⟩ = some (.float .f64 n) := by rw [cell_of_block hk3]; rfl
        have b_f2 : World.frozen? w4 ⟨w.heap.size, 2, none⟩ = false := frozen_of_block hk3
        clear hk3
        go_wp2_with fail
        exact bodyPost_ret (v := noneE) (by simp [results, Tryz.results51, go_sem, noneE, b_c0, b_c1, b_c2]) rfl ⟨rfl, below_set3 hb3 _ _ _⟩

set_option maxHeartbeats 1000000 in
theorem events_Read_some (s : List UInt8) (x : Ev) (rest : List UInt8) (w : World) (hs : s.length ≤ maxLen) (h : readE s = some (x, rest)) :
    Calls Tryz.prog 51 #[.string ⟨s.toArray⟩] w fun r w' => r = .returned (.tuple #[x.val, .string ⟨rest.toArray⟩, .bool true]) ∧ Below w.heap.size w w' := by
  unfold readE at h
  cases h1 : readL s with
  | none => rw [h1] at h; cases h
  | some p =>
    obtain ⟨ty, r1⟩ := p
    rw [h1] at h
    dsimp only at h
    have hr := readL_some h1
    have hl1 : r1.length ≤ s.length := by rw [hr.2.2.2]; simp only [List.length_drop]; omega
    have hl1' : ty.length ≤ s.length := by rw [hr.2.2.1]; simp only [List.length_take, List.length_drop]; omega
    clear hr
    cases h2 : readL r1 with
    | none => rw [h2] at h; cases h
    | some p =>
      obtain ⟨da, r2⟩ := p
      rw [h2] at h
      dsimp only at h
      have hr := readL_some h2
      have hl2 : r2.length ≤ r1.length := by rw [hr.2.2.2]; simp only [List.length_drop]; omega
      have hl2' : da.length ≤ r1.length := by rw [hr.2.2.1]; simp only [List.length_take, List.length_drop]; omega
      clear hr
      by_cases h8 : r2.length < 8
      · rw [if_pos h8] at h; cases h
      · rw [if_neg h8] at h
        have hc : checkE ⟨ty, da, beN (r2.take 8)⟩ = 0 := by
          by_cases hc : checkE ⟨ty, da, beN (r2.take 8)⟩ = 0
          · exact hc
          · rw [if_neg hc] at h; cases h
        rw [if_pos hc] at h
        simp only [Option.some.injEq, Prod.mk.injEq] at h
        obtain ⟨rfl, rfl⟩ := h
        have HC := Lib.hid hc
        clear hc
        go_enter Tryz.func51, Tryz.ntmps51
        go_wp2_with fail
        refine (nums_Read_some _ _ _ _ hs h1).mono ?_
        rintro r w1 ⟨rfl, hb⟩
        clear h1
        have hk := blk_after hb
        have hbb := below_after hb
        go_wp2_with fail
        refine (nums_Read_some _ _ _ _ (by omega) h2).mono ?_
        rintro r w2 ⟨rfl, hb2⟩
        clear h2 hb
        replace hk := blk_kept hb2 hk
        replace hbb := hbb.trans (hb2.mono hbb.size)
        clear hb2
        unfold maxLen at hs
        go_wp2_with fail
        refine (nums_Get _ _ (by simp [maxLen]; omega)).mono ?_
        rintro r w' ⟨rfl, rfl⟩
        rw [beN_take8]
        have b_c0 : World.cell? w2 ⟨w.heap.size, 0, none⟩ = some (.string ⟨#[]⟩) := by rw [cell_of_block hk]; rfl
        have b_f0 : World.frozen? w2 ⟨w.heap.size, 0, none⟩ = false := frozen_of_block hk
        have b_c1 : World.cell? w2 ⟨w.heap.size, 1, none⟩ = some (.string ⟨#[]⟩) := by rw [cell_of_block hk]; rfl
        have b_f1 : World.frozen? w2 ⟨w.heap.size, 1, none⟩ = false := frozen_of_block hk
        have b_c2 : World.cell? w2 ⟨w.heap.size, 2, none⟩ = some (.float .f64 0) := by rw [cell_of_block hk]; rfl
        have b_f2 : World.frozen? w2 ⟨w.heap.size, 2, none⟩ = false := frozen_of_block hk
        go_wp2_with fail
        generalize hn : beN (r2.take 8) = n at *
        have HN := Lib.hid hn
        clear hn
        have hk3 := block_setCell (i := 2) (block_setCell (i := 1) (block_setCell (i := 0) hk (.string ⟨ty.toArray⟩)) (.string ⟨da.toArray⟩)) (.float .f64 n)
        have hb3 := below_set3 hbb (.string ⟨ty.toArray⟩) (.string ⟨da.toArray⟩) (.float .f64 n)
        generalize ((w2.setCell ⟨w.heap.size, 0, none⟩ (.string ⟨ty.toArray⟩)).setCell ⟨w.heap.size, 1, none⟩ (.string ⟨da.toArray⟩)).setCell ⟨w.heap.size, 2, none⟩ (.float .f64 n) = w3 at *
        replace hk3 : w3.heap[w.heap.size]? = some (.cells #[.string ⟨ty.toArray⟩, .string ⟨da.toArray⟩, .float .f64 n] 77) := hk3
        clear hk b_c0 b_c1 b_c2 b_f0 b_f1 b_f2 hbb
        refine (events_Check ⟨ty, da, n⟩ _ (by unfold maxLen; dsimp only; omega) (by unfold maxLen; dsimp only; omega)).mono ?_
        rintro r w4 ⟨rfl, hb4⟩
        rw [HC.out]
        replace hk3 := blk_kept hb4 hk3
        replace hb3 := hb3.trans (hb4.mono hb3.size)
        clear hb4
        have b_c0 : World.cell? w4 ⟨w.heap.size, 0, none⟩ = some (.string ⟨ty.toArray⟩) := by rw [cell_of_block hk3]; rfl
        have b_f0 : World.frozen? w4 ⟨w.heap.size, 0, none⟩ = false := frozen_of_block hk3
        have b_c1 : World.cell? w4 ⟨w.heap.size, 1, none⟩ = some (.string ⟨da.toArray⟩) := by rw [cell_of_block hk3]; rfl
        have b_f1 : World.frozen? w4 ⟨w.heap.size, 1, none⟩ = false := frozen_of_block hk3
        have b_c2 : World.cell? w4 ⟨w.heap.size, 2, none⟩ = some (.float .f64 n) := by rw [cell_of_block hk3]; rfl
        have b_f2 : World.frozen? w4 ⟨w.heap.size, 2, none⟩ = false := frozen_of_block hk3
        clear hk3
        go_wp2_with fail
        go_region
        go_wp2_with fail
        exact bodyPost_ret (v := .tuple #[Ev.val ⟨ty, da, n⟩, .string ⟨(r2.drop 8).toArray⟩, .bool true]) (by simp [results, Tryz.results51, go_sem, b_c0, b_c1, b_c2]) rfl ⟨by rw [HN.out], (below_set3 hb3 _ _ _).drew⟩
theorem readE_le {s r : List UInt8} {x : Ev} (h : readE s = some (x, r)) : r.length ≤ s.length := by
  unfold readE at h
  split at h
  · cases h
  · rename_i ty r1 h1
    split at h
    · cases h
    · rename_i da r2 h2
      split at h
      · cases h
      · split at h
        · simp only [Option.some.injEq, Prod.mk.injEq] at h
          have a := readL_some h1
          have b := readL_some h2
          rw [← h.2, List.length_drop, b.2.2.2, List.length_drop, List.length_drop, a.2.2.2, List.length_drop, List.length_drop]
          omega
        · cases h
end Go.Proofs.YtamlhndibcafgaaGreatDoor
