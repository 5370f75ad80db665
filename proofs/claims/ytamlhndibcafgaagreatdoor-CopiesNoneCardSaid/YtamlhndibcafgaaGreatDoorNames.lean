/- Contracts of the package names: Stream, Chunk. -/
import Derived.Test.YtamlhndibcafgaaGreatDoorNums
import Derived.Test.YtamlhndibcafgaaGreatDoorPure2
import Derived.Laws.Runes
namespace Go.Proofs.YtamlhndibcafgaaGreatDoor
open Go.RowKit

theorem names_file_letter : (convert 5 9 (.int .u8 99)).run Tryz.prog = fun w => .ok (.string ⟨[99].toArray⟩) w := by
  funext w
  rw [run_convert_int_string w 5 9 .u8 99 (by rw [Tryz.underlying5]; rfl) Tryz.underlying9]
  rfl

def nameRow (n j : Nat) : List UInt8 := List.replicate (6 - j) (0 : UInt8) ++ (dec 6 n).drop (6 - j)
theorem nameRow_length (n j : Nat) : (nameRow n j).length = 6 - j + (6 - (6 - j)) := by simp [nameRow]
theorem nameRow_set (n j : Nat) (h : j < 6) : (bytesRow (nameRow n j)).set (5 - j) (.int .u8 (48 + (n / 10 ^ j : Nat) % 10)) = bytesRow (nameRow n (j + 1)) := by
  have e : Value.int .u8 (48 + ((n / 10 ^ j : Nat) : Int) % 10) = Value.int .u8 (((UInt8.ofNat (48 + n / 10 ^ j % 10)).toNat : Nat) : Int) := by
    congr 1
    have : (UInt8.ofNat (48 + n / 10 ^ j % 10)).toNat = 48 + n / 10 ^ j % 10 := by
      have := Nat.mod_lt (n / 10 ^ j) (by omega : 10 > 0)
      simp; omega
    rw [this]; omega
  rw [e]
  unfold bytesRow
  have : (List.map (fun c => Value.int IntKind.u8 ↑c.toNat) (nameRow n j)).set (5 - j) (Value.int IntKind.u8 ↑(UInt8.ofNat (48 + n / 10 ^ j % 10)).toNat)
      = List.map (fun c => Value.int IntKind.u8 ↑c.toNat) ((nameRow n j).set (5 - j) (UInt8.ofNat (48 + n / 10 ^ j % 10))) := by rw [List.map_set]
  rw [this]
  congr 1
  apply List.ext_getElem?
  intro i
  unfold nameRow
  rw [List.getElem?_set]
  by_cases hi : 5 - j = i
  · subst hi
    rw [if_pos rfl, if_pos (by simp; omega), List.getElem?_append_right (by simp)]
    simp only [List.length_replicate, List.getElem?_drop]
    rw [dec_getElem _ _ _ (by omega), show 6 - 1 - (6 - (j + 1) + (5 - j - (6 - (j + 1)))) = j by omega]
  · rw [if_neg hi]
    by_cases h1 : i < 5 - j
    · rw [List.getElem?_append_left (by simp; omega), List.getElem?_append_left (by simp; omega), List.getElem?_replicate, List.getElem?_replicate, if_pos (by omega), if_pos (by omega)]
    · rw [List.getElem?_append_right (by simp; omega), List.getElem?_append_right (by simp; omega)]
      simp only [List.length_replicate, List.getElem?_drop]
      congr 1; omega

set_option maxRecDepth 100000 in
set_option maxHeartbeats 400000 in
theorem names_file (n : Nat) (w : World) (hn : n ≤ 999999) :
    Calls Tryz.prog 174 #[.int .u8 99, .int .i64 n] w fun e w' => e = .returned (.string ⟨(chunkL n).toArray⟩) ∧ Below w.heap.size w w' := by
  obtain ⟨i0, hi, hz0, hz1, hz2⟩ := info_parts Tryz.info5
  have H0 := Lib.hid hi; have H1 := Lib.hid hz0; have H2 := Lib.hid hz1; have H3 := Lib.hid hz2
  have HL := names_file_letter
  clear hi hz0 hz1 hz2
  go_enter Tryz.func174, Tryz.ntmps174
  go_wp2_with (at_make; refine wpList_make_full _ rfl _ _ 31 rfl w.heap.size 5 i0 (.int .u8 0) 1 Tryz.underlying31 H0.out H1.out H2.out _ _ _ _ 6 rfl rfl rfl rfl ?b1 ?b2 ?b3 ?_)
  case b1 => rw [H3.out]; omega
  case b2 => unfold maxLen; omega
  case b3 => exact Nat.le_refl _
  intro w1 hown hgrow
  have HS := Lib.hid (show (madeCells #[Value.int IntKind.u8 0] 6).toList = bytesRow (nameRow n 0) by
    rw [toList_madeCells_one]; simp [bytesRow, nameRow, List.drop_eq_nil_of_le])
  rw [HS.out] at hown
  go_wp2_with fail
  go_loopw [1, 14] (fun m i wr => ∃ j : Nat, j ≤ 6 ∧ i = .int .i64 j ∧ m = .int .i64 (n / 10 ^ j : Nat) ∧ wr.ownsRow w.heap.size 5 1 (.slice (some ⟨w.heap.size, 0, none⟩) 6 6) 6 (bytesRow (nameRow n j)) ∧ Below w.heap.size w wr) (fun _ i _ => 6 - (intOf i).toNat)
  case atStart => exact ⟨0, by omega, rfl, by simp, hown, (Below.refl _ _).grown hgrow (Nat.le_refl _) (by simp)⟩
  case round =>
    obtain ⟨j, hj, rfl, rfl, hown1, hb⟩ := hrel
    by_cases hlt : j < 6
    · have hf := hown1.frozenAt (5 - j)
      have hst := (hown1.stored (5 - j) (.int .u8 (48 + ((n / 10 ^ j : Nat) : Int) % 10))).1
      rw [nameRow_set n j hlt] at hst
      obtain ⟨x, hx⟩ : ∃ x, wr.cell? ⟨w.heap.size, 5 - j, none⟩ = some x := by
        rw [hown1.cellAt (5 - j) (by omega)]
        exact ⟨_, List.getElem?_eq_getElem (by rw [bytesRow_length, nameRow_length]; omega)⟩
      have hb' := hb.setCell (p := ⟨w.heap.size, 5 - j, none⟩) (Nat.le_refl _) (.int .u8 (48 + ((n / 10 ^ j : Nat) : Int) % 10))
      have hm : (n / 10 ^ j : Nat) ≤ 999999 := Nat.le_trans (Nat.div_le_self _ _) hn
      have HD := Lib.hid (show n / 10 ^ j / 10 = n / 10 ^ (j + 1) by rw [Nat.div_div_eq_div_mul, Nat.pow_succ])
      generalize hg : n / 10 ^ j = m at *
      go_wp2_with fail
      go_roundw
      case rel => exact ⟨j + 1, by omega, by go_num, by rw [← HD.out]; go_num, hst, hb'⟩
      case measure => simp [intOf]; omega
    · obtain rfl : j = 6 := by omega
      have hc := convert_row hown1
      have HX := Lib.hid (show nameRow n 6 = dec 6 n by simp [nameRow])
      rw [HX.out] at hc
      go_wp2_with fail
      go_ret
      exact ⟨rfl, hb⟩

set_option maxHeartbeats 400000 in
theorem names_Chunk (n : Nat) (w : World) (hn : n ≤ 999999) :
    Calls Tryz.prog 130 #[.int .i64 n] w fun e w' => e = .returned (.string ⟨(chunkL n).toArray⟩) ∧ Below w.heap.size w w' := by
  go_enter Tryz.func130, Tryz.ntmps130
  go_wp2_with fail
  refine (names_file n _ hn).mono ?_
  rintro e w' ⟨rfl, hb⟩
  go_wp2_with fail
  go_ret
  exact ⟨rfl, hb⟩
end Go.Proofs.YtamlhndibcafgaaGreatDoor
