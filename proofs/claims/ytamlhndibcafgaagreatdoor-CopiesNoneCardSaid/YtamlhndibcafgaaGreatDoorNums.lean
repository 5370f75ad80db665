/- Contracts of the packages nums and sums: a number's bytes, texts with their lengths, CRC-32. No condition but that lengths are those of a memory. -/
import Derived.Test.YtamlhndibcafgaaGreatDoorProg
import Derived.Test.YtamlhndibcafgaaGreatDoorPure
import Derived.WalkKit
import Derived.Lib.Hide
import Derived.Deep.QuietTactic
import Derived.BigQuiet
import Derived.BigRegion
import Derived.WalkSmall
import Derived.Deep.AppendLies
import Derived.WalkLawsBesides
import Derived.WalkSpells
import Derived.Laws.EntriesVeiled
import Derived.Deep.RegionHeld3
import Derived.Deep.RegionWith
import Derived.Lib.ConvBytes
namespace Go.Proofs.YtamlhndibcafgaaGreatDoor
open Go.RowKit

section
variable (P : Program) (w : World) (a : Addr) (m : Mode)
@[go_sem] theorem run_store_float (k : FloatKind) (n : Nat) : (store a (.float k n) m).run P w = stored P w a (.float k n) m := run_store P w a _ m rfl
@[go_sem] theorem run_store_map (r : Option Nat) : (store a (.map r) m).run P w = stored P w a (.map r) m := run_store P w a _ m rfl
end
theorem ret_int {k : IntKind} {a b : Int} (h : a = b) : Ending.returned (.int k a) = .returned (.int k b) := by rw [h]
theorem ret_str {a b : List UInt8} (h : a = b) : Ending.returned (.string ⟨a.toArray⟩) = .returned (.string ⟨b.toArray⟩) := by rw [h]
/-- Two strings, one behind the other. -/
@[simp] theorem str_append (a b : List UInt8) : (⟨a.toArray⟩ : ByteArray) ++ ⟨b.toArray⟩ = ⟨(a ++ b).toArray⟩ := by
  apply ByteArray.ext; simp
@[simp] theorem str_size (l : List UInt8) : (⟨l.toArray⟩ : ByteArray).size = l.length := by show l.toArray.size = _; simp
@[simp] theorem str_get (l : List UInt8) (i : Nat) (h : i < (⟨l.toArray⟩ : ByteArray).size) : (⟨l.toArray⟩ : ByteArray)[i]'h = l[i]'(by rw [← str_size]; exact h) := rfl
@[simp] theorem str_extract (l : List UInt8) (a b : Nat) : (⟨l.toArray⟩ : ByteArray).extract a b = ⟨((l.drop a).take (b - a)).toArray⟩ := by
  apply ByteArray.ext
  rw [ByteArray.data_extract]
  simp
@[simp] theorem str_extract_all (l : List UInt8) (a : Nat) : (⟨l.toArray⟩ : ByteArray).extract a l.length = ⟨(l.drop a).toArray⟩ := by
  rw [str_extract, List.take_of_length_le (by simp)]
theorem str_lit (s : ByteArray) : ∃ l : List UInt8, s = ⟨l.toArray⟩ := ⟨s.data.toList, by simp⟩
theorem take_snoc (s : List UInt8) (k : Nat) (h : k < s.length) : s.take (k + 1) = s.take k ++ [s[k]] := by
  rw [List.take_succ_eq_append_getElem h]
theorem shl_or (a c : Nat) (ha : a < 72057594037927936) (hc : c < 256) :
    bits BinOp.or IntKind.u64 (IntKind.u64.wrap ((a : Int) * 256)) (IntKind.u64.wrap (c : Int)) = ((a * 256 + c : Nat) : Int) := by
  have e1 : IntKind.u64.wrap ((a : Int) * 256) = ((a * 256 : Nat) : Int) := by simp [IntKind.wrap, IntKind.bits, IntKind.signed]; omega
  have e2 : IntKind.u64.wrap (c : Int) = ((c : Nat) : Int) := by simp [IntKind.wrap, IntKind.bits, IntKind.signed]; omega
  rw [e1, e2, u64_or_nat _ _ (by omega) (by omega)]
  have : a * 256 = a <<< 8 := by rw [Nat.shiftLeft_eq]
  rw [this, ← Nat.shiftLeft_add_eq_or_of_lt (by omega : c < 2 ^ 8)]
theorem get_step (s : List UInt8) (k : Nat) (h : k < s.length) (hk : k < 8) :
    Value.int IntKind.u64 (bits BinOp.or IntKind.u64 (IntKind.u64.wrap (↑(beN (List.take k s)) * 256)) (IntKind.u64.wrap ↑s[k].toNat)) =
     Value.int IntKind.u64 ↑(beN (List.take (k + 1) s)) := by
  rw [shl_or _ _ (beN_take_lt _ _ hk) s[k].toNat_lt, take_snoc s k h, beN_snoc]

set_option maxHeartbeats 400000 in
theorem nums_Get (s : List UInt8) (w : World) (hs : s.length ≤ maxLen) :
    Calls Tryz.prog 49 #[.string ⟨s.toArray⟩] w fun e w' => e = .returned (.int .u64 (beN (s.take 8))) ∧ w = w' := by
  unfold maxLen at hs
  go_enter Tryz.func49, Tryz.ntmps49
  go_wp2
  all_goals
    go_loop [3, 8] (fun n i => ∃ k : Nat, k ≤ s.length ∧ k ≤ 8 ∧ i = .int .i64 k ∧ n = .int .u64 (beN (s.take k))) (fun _ i => s.length - (intOf i).toNat)
    case atStart => exact ⟨0, Nat.zero_le _, Nat.zero_le _, rfl, rfl⟩
    case round =>
      obtain ⟨k, hk, hk8, rfl, rfl⟩ := hrel
      by_cases hlt : k < s.length ∧ k < 8
      · obtain ⟨h1, h2⟩ := hlt
        have H := Lib.hid (get_step s k h1 h2)
        go_wp2
        go_round
        case rel => exact ⟨k + 1, by omega, by omega, by go_num, H.out⟩
        case measure => simp [intOf]; omega
      · have hb : beN (s.take k) = beN (s.take 8) := by
          by_cases h8 : k = 8
          · rw [h8]
          · rw [List.take_of_length_le (by omega), List.take_of_length_le (by omega)]
        have HB := Lib.hid hb
        clear hb
        rcases (by omega : s.length ≤ k ∨ (8 ≤ k ∧ k < s.length)) with h2 | ⟨h2, h3⟩
        all_goals
          clear hlt
          first
            | (exfalso; omega)
            | skip
          go_wp2
          all_goals (go_ret; exact ⟨ret_int (by rw [HB.out]), rfl⟩)

theorem crc_bit_eq (s : Nat) (h : s < 4294967296) :
    bits BinOp.xor IntKind.u32 ((s : Int) / 2) (bits BinOp.and IntKind.u32 3988292384 (-bits BinOp.and IntKind.u32 (s : Int) 1 % 4294967296)) = ((crcBit s : Nat) : Int) := by
  have e0 : bits BinOp.and IntKind.u32 (s : Int) 1 = ((s % 2 : Nat) : Int) := by
    have := u32_and_nat s 1 h (by omega)
    rw [Nat.and_one_is_mod] at this; exact this
  rw [e0]
  unfold crcBit
  rcases (by omega : s % 2 = 0 ∨ s % 2 = 1) with h0 | h0
  · rw [h0, if_neg (by omega)]
    have e1 : bits BinOp.and IntKind.u32 3988292384 (-((0 : Nat) : Int) % 4294967296) = ((0 : Nat) : Int) := by decide
    rw [e1]
    exact u32_xor_nat (s / 2) 0 (by omega) (by omega)
  · rw [h0, if_pos rfl]
    have e1 : bits BinOp.and IntKind.u32 3988292384 (-((1 : Nat) : Int) % 4294967296) = ((3988292384 : Nat) : Int) := by
      have := u32_and_nat 3988292384 4294967295 (by omega) (by omega)
      have e2 : (3988292384 &&& 4294967295 : Nat) = 3988292384 := by decide
      rw [e2] at this
      exact this
    rw [e1]
    exact u32_xor_nat (s / 2) 3988292384 (by omega) (by omega)

set_option maxHeartbeats 400000 in
theorem sums_step (n : Nat) (c : UInt8) (w : World) (hn : n < 4294967296) :
    Calls Tryz.prog 170 #[.int .u32 n, .int .u8 c.toNat] w fun e w' => e = .returned (.int .u32 (crcByte n c)) ∧ w = w' := by
  have hc := c.toNat_lt
  have hx := Lib.hid (u32_xor_nat n c.toNat hn (by omega))
  go_enter Tryz.func170, Tryz.ntmps170
  go_wp2
  go_loop [0, 9] (fun s i => ∃ k : Nat, k ≤ 8 ∧ i = .int .i64 k ∧ s = .int .u32 (crcBits k (n ^^^ c.toNat))) (fun _ i => 8 - (intOf i).toNat)
  case atStart => exact ⟨0, by omega, rfl, by rw [hx.out]; rfl⟩
  case round =>
    obtain ⟨k, hk, rfl, rfl⟩ := hrel
    have hlt := crcBits_lt k (n ^^^ c.toNat) (Nat.xor_lt_two_pow (n := 32) hn (by omega))
    have H := Lib.hid (crc_bit_eq (crcBits k (n ^^^ c.toNat)) hlt)
    by_cases h8 : k < 8
    · go_wp2
      go_round
      case rel => exact ⟨k + 1, by omega, by go_num, by rw [H.out, crcBits_succ]⟩
      case measure => simp [intOf]; omega
    · obtain rfl : k = 8 := by omega
      go_wp2
      go_ret
      exact ⟨ret_int rfl, rfl⟩

theorem not32 (n : Nat) (h : n < 4294967296) : bits BinOp.xor IntKind.u32 IntKind.u32.max (n : Int) = ((n ^^^ 4294967295 : Nat) : Int) := by
  have := u32_xor_nat 4294967295 n (by omega) h
  rw [Nat.xor_comm] at this; exact this
theorem crcFold_snoc (s : Nat) (l : List UInt8) (c : UInt8) : (l ++ [c]).foldl crcByte s = crcByte (l.foldl crcByte s) c := by simp
set_option maxHeartbeats 400000 in
theorem sums_More (n : Nat) (s : List UInt8) (w : World) (hn : n < 4294967296) (hs : s.length ≤ maxLen) :
    Calls Tryz.prog 125 #[.int .u32 n, .string ⟨s.toArray⟩] w fun e w' => e = .returned (.int .u32 (crcMore n s)) ∧ w = w' := by
  unfold maxLen at hs
  have hx := Lib.hid (not32 n hn)
  have hn' : n ^^^ 4294967295 < 4294967296 := Nat.xor_lt_two_pow (n := 32) hn (by omega)
  go_enter Tryz.func125, Tryz.ntmps125
  go_wp2_with fail
  go_loop [5, 11] (fun t i => ∃ k : Nat, k ≤ s.length ∧ i = .int .i64 k ∧ t = .int .u32 (((s.take k).foldl crcByte (n ^^^ 4294967295) : Nat) : Int)) (fun _ i => s.length - (intOf i).toNat)
  case atStart => exact ⟨0, by omega, rfl, by rw [hx.out]; rfl⟩
  case round =>
    obtain ⟨k, hk, rfl, rfl⟩ := hrel
    have hlt := crcFold_lt (s.take k) _ hn'
    by_cases h8 : k < s.length
    · have H := Lib.hid (show crcByte ((s.take k).foldl crcByte (n ^^^ 4294967295)) s[k] = (s.take (k + 1)).foldl crcByte (n ^^^ 4294967295) by rw [take_snoc s k h8, crcFold_snoc])
      clear hn'
      generalize (s.take k).foldl crcByte (n ^^^ 4294967295) = t at *
      go_wp2_with (go_at_call 170; refine (sums_step _ _ _ hlt).mono ?_; rintro e w' ⟨rfl, rfl⟩)
      go_round
      case rel => exact ⟨k + 1, by omega, by go_num, by rw [H.out]⟩
      case measure => simp [intOf]; omega
    · obtain rfl : k = s.length := by omega
      have H := Lib.hid (not32 _ hlt)
      rw [List.take_length] at hlt H
      rw [List.take_length]
      clear hn'
      go_wp2_with fail
      go_ret
      exact ⟨ret_int (by rw [H.out]; rfl), rfl⟩

set_option maxHeartbeats 400000 in
theorem sums_Sum (s : List UInt8) (w : World) (hs : s.length ≤ maxLen) :
    Calls Tryz.prog 88 #[.string ⟨s.toArray⟩] w fun e w' => e = .returned (.int .u32 (crc s)) ∧ w = w' := by
  go_enter Tryz.func88, Tryz.ntmps88
  go_wp2_with (go_at_call 125; refine (sums_More 0 _ _ (by omega) hs).mono ?_; rintro e w' ⟨rfl, rfl⟩)
  go_ret
  exact ⟨rfl, rfl⟩

theorem Tryz.info5 : (Tryz.prog.info? 5).map (fun i => (i.zero, i.size, i.bytes)) = some (some (.int .u8 0), 1, 1) := by kernel_rfl
/-- Bytes as cells. -/
def bytesRow (l : List UInt8) : List Value := l.map fun c => Value.int .u8 c.toNat
theorem bytesRow_length (l : List UInt8) : (bytesRow l).length = l.length := by simp [bytesRow]
theorem strOfNums_bytes (l : List UInt8) : strOfNums (l.map fun c => (c.toNat : Int)) = ⟨l.toArray⟩ := by
  unfold strOfNums
  congr 2
  simp [List.map_map, Function.comp_def]
theorem convert_row {w : World} {base g n cap : Nat} {l : List UInt8} (h : w.ownsRow base 5 1 (.slice (some ⟨g, 0, none⟩) n cap) n (bytesRow l)) :
    (convert 31 9 (.slice (some ⟨g, 0, none⟩) n cap)).run Tryz.prog w = .ok (.string ⟨l.toArray⟩) w := by
  have hl : l.length = n := by have := h.1; simpa [bytesRow_length] using this
  have := run_convert_bytes_arg (P := Tryz.prog) w 31 5 Tryz.underlying31 Tryz.underlying5 g 0 n cap (l.map fun c => (c.toNat : Int)) (by simpa using hl)
    (fun i hi => by
      have hi' : i < l.length := by omega
      rw [Nat.zero_add, h.cellAt i (by omega)]
      simp [bytesRow, List.getD, hi']) 9 Tryz.underlying9
  rw [strOfNums_bytes] at this
  exact this

theorem convert_cells {w : World} {b n cap : Nat} {l : List UInt8} (hl : l.length = n) (hc : ∀ i (h : i < l.length), w.cell? ⟨b, i, none⟩ = some (.int .u8 l[i].toNat)) :
    (convert 31 9 (.slice (some ⟨b, 0, none⟩) n cap)).run Tryz.prog w = .ok (.string ⟨l.toArray⟩) w := by
  have := run_convert_bytes_arg (P := Tryz.prog) w 31 5 Tryz.underlying31 Tryz.underlying5 b 0 n cap (l.map fun c => (c.toNat : Int)) (by simpa using hl)
    (fun i hi => by
      have hi' : i < l.length := by omega
      rw [Nat.zero_add, hc i hi']
      simp [List.getD, hi']) 9 Tryz.underlying9
  rw [strOfNums_bytes] at this
  exact this
theorem block_setCell {w : World} {b i : Nat} {c : Array Value} {e : TypeId} {fz : Nat × Nat} (h : w.heap[b]? = some (.cells c e fz)) (v : Value) :
    (w.setCell ⟨b, i, none⟩ v).heap[b]? = some (.cells (c.setIfInBounds i v) e fz) := by
  simp [World.setCell, Array.getElem?_modify, h]
theorem cell_of_block {w : World} {b i : Nat} {c : Array Value} {e : TypeId} {fz : Nat × Nat} (h : w.heap[b]? = some (.cells c e fz)) : w.cell? ⟨b, i, none⟩ = c[i]? := by
  simp [World.cell?, h]
theorem frozen_of_block {w : World} {b i : Nat} {c : Array Value} {e : TypeId} (h : w.heap[b]? = some (.cells c e (0, 0))) : w.frozen? ⟨b, i, none⟩ = false := by
  simp [World.frozen?, h]

/-- The row in which Put has laid the last j bytes. -/
def putRow (k n j : Nat) : List UInt8 := List.replicate (k - j) (0 : UInt8) ++ (be k n).drop (k - j)
theorem putRow_length (k n j : Nat) : (putRow k n j).length = k := by simp [putRow, be_length]
theorem putRow_zero (k n : Nat) : putRow k n 0 = List.replicate k 0 := by
  simp [putRow, List.drop_eq_nil_of_le, be_length]
theorem putRow_all (k n : Nat) : putRow k n k = be k n := by simp [putRow]
theorem putRow_set (k n j : Nat) (h : j < k) : (bytesRow (putRow k n j)).set (k - 1 - j) (.int .u8 ((n : Int) / 2 ^ (8 * j) % 256)) = bytesRow (putRow k n (j + 1)) := by
  have e : Value.int .u8 ((n : Int) / 2 ^ (8 * j) % 256) = Value.int .u8 (((UInt8.ofNat (n / 256 ^ j % 256)).toNat : Nat) : Int) := by
    have h2 : (256 : Nat) ^ j = 2 ^ (8 * j) := by rw [show (256 : Nat) = 2 ^ 8 from rfl, ← Nat.pow_mul]
    congr 1
    rw [show (UInt8.ofNat (n / 256 ^ j % 256)).toNat = n / 256 ^ j % 256 by simp, h2]
    simp
  rw [e]
  unfold bytesRow
  have : (List.map (fun c => Value.int IntKind.u8 ↑c.toNat) (putRow k n j)).set (k - 1 - j) (Value.int IntKind.u8 ↑(UInt8.ofNat (n / 256 ^ j % 256)).toNat)
      = List.map (fun c => Value.int IntKind.u8 ↑c.toNat) ((putRow k n j).set (k - 1 - j) (UInt8.ofNat (n / 256 ^ j % 256))) := by rw [List.map_set]
  rw [this]
  congr 1
  apply List.ext_getElem?
  intro i
  unfold putRow
  rw [List.getElem?_set]
  by_cases hi : k - 1 - j = i
  · subst hi
    rw [if_pos rfl, if_pos (by simp [be_length]; omega), List.getElem?_append_right (by simp; omega)]
    simp only [List.length_replicate, List.getElem?_drop]
    rw [be_getElem _ _ _ (by omega), show k - 1 - (k - (j + 1) + (k - 1 - j - (k - (j + 1)))) = j by omega]
  · rw [if_neg hi]
    by_cases h1 : i < k - 1 - j
    · rw [List.getElem?_append_left (by simp; omega), List.getElem?_append_left (by simp; omega), List.getElem?_replicate, List.getElem?_replicate, if_pos (by omega), if_pos (by omega)]
    · rw [List.getElem?_append_right (by simp; omega), List.getElem?_append_right (by simp; omega)]
      simp only [List.length_replicate, List.getElem?_drop]
      congr 1; omega

set_option maxRecDepth 100000 in
set_option maxHeartbeats 400000 in
theorem nums_Put (n k : Nat) (w : World) (h1 : 1 ≤ k) (h8 : k ≤ 8) :
    Calls Tryz.prog 33 #[.int .u64 n, .int .i64 k] w fun e w' => e = .returned (.string ⟨(be k n).toArray⟩) ∧ Below w.heap.size w w' := by
  obtain ⟨i0, hi, hz0, hz1, hz2⟩ := info_parts Tryz.info5
  have H0 := Lib.hid hi; have H1 := Lib.hid hz0; have H2 := Lib.hid hz1; have H3 := Lib.hid hz2
  clear hi hz0 hz1 hz2
  go_enter Tryz.func33, Tryz.ntmps33
  go_wp2_with (at_make; refine wpList_make_full _ rfl _ _ 31 rfl w.heap.size 5 i0 (.int .u8 0) 1 Tryz.underlying31 H0.out H1.out H2.out _ _ _ _ k rfl rfl rfl rfl ?b1 ?b2 ?b3 ?_)
  case b1 => rw [H3.out]; omega
  case b2 => unfold maxLen; omega
  case b3 => exact Nat.le_refl _
  intro w1 hown hgrow
  have HS := Lib.hid (show (madeCells #[Value.int IntKind.u8 0] k).toList = bytesRow (putRow k n 0) by
    rw [toList_madeCells_one, putRow_zero]; simp [bytesRow])
  rw [HS.out] at hown
  go_wp2_with fail
  go_loopw [16] (fun i wr => ∃ j : Nat, j ≤ k ∧ i = .int .i64 j ∧ wr.ownsRow w.heap.size 5 1 (.slice (some ⟨w.heap.size, 0, none⟩) k k) k (bytesRow (putRow k n j)) ∧ Below w.heap.size w wr) (fun i _ => k - (intOf i).toNat)
  case atStart => exact ⟨0, by omega, rfl, hown, (Below.refl _ _).grown hgrow (Nat.le_refl _) (by simp)⟩
  case round =>
    obtain ⟨j, hj, rfl, hown1, hb⟩ := hrel
    by_cases hlt : j < k
    · have hf := hown1.frozenAt (k - 1 - j)
      have hst := (hown1.stored (k - 1 - j) (.int .u8 ((n : Int) / 2 ^ (8 * j) % 256))).1
      rw [putRow_set k n j hlt] at hst
      obtain ⟨x, hx⟩ : ∃ x, wr.cell? ⟨w.heap.size, k - 1 - j, none⟩ = some x := by
        rw [hown1.cellAt (k - 1 - j) (by omega)]
        exact ⟨_, List.getElem?_eq_getElem (by rw [bytesRow_length, putRow_length]; omega)⟩
      have hb' := hb.setCell (p := ⟨w.heap.size, k - 1 - j, none⟩) (Nat.le_refl _) (.int .u8 ((n : Int) / 2 ^ (8 * j) % 256))
      go_wp2_with fail
      go_roundw
      case rel => exact ⟨j + 1, by omega, by go_num, hst, hb'⟩
      case measure => simp [intOf]; omega
    · obtain rfl : j = k := by omega
      have hc := convert_row hown1
      rw [putRow_all] at hc
      go_wp2_with fail
      go_ret
      exact ⟨rfl, hb⟩

/-- Strings out of bytes. -/
abbrev S (l : List UInt8) : ByteArray := ⟨l.toArray⟩
set_option maxHeartbeats 400000 in
theorem nums_Text (s : List UInt8) (w : World) (hs : s.length ≤ maxLen) :
    Calls Tryz.prog 36 #[.string ⟨s.toArray⟩] w fun e w' => e = .returned (.string ⟨(textL s).toArray⟩) ∧ Below w.heap.size w w' := by
  unfold maxLen at hs
  by_cases h : 65535 < s.length
  · go_enter Tryz.func36, Tryz.ntmps36
    go_wp2_with fail
    go_ret
    exact ⟨ret_str (b := textL s) (a := []) (by unfold textL; rw [if_pos h]), Below.refl _ _⟩
  · go_enter Tryz.func36, Tryz.ntmps36
    go_wp2_with fail
    refine (nums_Put _ 2 _ (by omega) (by omega)).mono ?_
    rintro e w' ⟨rfl, hb⟩
    go_wp2_with fail
    go_ret
    exact ⟨ret_str (b := textL s) (by unfold textL; rw [if_neg h]), hb⟩

theorem readL_some {l a b : List UInt8} (h : readL l = some (a, b)) : 2 ≤ l.length ∧ beN (l.take 2) ≤ l.length - 2 ∧ a = (l.drop 2).take (beN (l.take 2)) ∧ b = (l.drop 2).drop (beN (l.take 2)) := by
  unfold readL at h
  split at h
  · cases h
  · split at h
    · cases h
    · simp only [Option.some.injEq, Prod.mk.injEq] at h
      exact ⟨by omega, by omega, h.1.symm, h.2.symm⟩
theorem readL_none {l : List UInt8} (h : readL l = none) : l.length < 2 ∨ (2 ≤ l.length ∧ l.length - 2 < beN (l.take 2)) := by
  unfold readL at h
  split at h
  · left; assumption
  · split at h
    · right; exact ⟨by omega, by assumption⟩
    · cases h
theorem beN_take2 (l : List UInt8) : beN (l.take 2) < 65536 := by
  have h := beN_lt (l.take 2)
  have h3 : 256 ^ (l.take 2).length ≤ 256 ^ 2 := Nat.pow_le_pow_right (by omega) (List.length_take_le 2 l)
  omega

set_option maxHeartbeats 400000 in
theorem nums_Read_none (s : List UInt8) (w : World) (hs : s.length ≤ maxLen) (h : readL s = none) :
    Calls Tryz.prog 50 #[.string ⟨s.toArray⟩] w fun e w' => e = .returned (.tuple #[.string ⟨#[]⟩, .string ⟨#[]⟩, .bool false]) ∧ w = w' := by
  unfold maxLen at hs
  rcases readL_none h with h2 | ⟨h2, h3⟩
  · clear h
    go_enter Tryz.func50, Tryz.ntmps50
    go_wp2_with fail
    go_ret3
    exact ⟨rfl, rfl⟩
  · clear h
    go_enter Tryz.func50, Tryz.ntmps50
    go_wp2_with fail
    refine (nums_Get _ _ (by simp [maxLen]; omega)).mono ?_
    rintro e w' ⟨rfl, rfl⟩
    rw [List.take_take, show min 8 2 = 2 from rfl]
    have hb := beN_take2 s
    generalize beN (s.take 2) = n at *
    go_wp2_with fail
    go_ret3
    exact ⟨rfl, rfl⟩
theorem ret_read {a b c d : List UInt8} (h : a = b) (h2 : c = d) : Ending.returned (.tuple #[.string ⟨a.toArray⟩, .string ⟨c.toArray⟩, .bool true]) = .returned (.tuple #[.string ⟨b.toArray⟩, .string ⟨d.toArray⟩, .bool true]) := by rw [h, h2]
set_option maxHeartbeats 400000 in
theorem nums_Read_some (s a b : List UInt8) (w : World) (hs : s.length ≤ maxLen) (h : readL s = some (a, b)) :
    Calls Tryz.prog 50 #[.string ⟨s.toArray⟩] w fun e w' => e = .returned (.tuple #[.string ⟨a.toArray⟩, .string ⟨b.toArray⟩, .bool true]) ∧ Below w.heap.size w w' := by
  unfold maxLen at hs
  obtain ⟨h2, h3, rfl, rfl⟩ := readL_some h
  clear h
  have hb := beN_take2 s
  generalize hn : beN (s.take 2) = n at *
  have HN := Lib.hid hn
  clear hn
  go_enter Tryz.func50, Tryz.ntmps50
  go_wp2_with fail
  refine (nums_Get _ _ (by simp [maxLen]; omega)).mono ?_
  rintro e w' ⟨rfl, rfl⟩
  rw [List.take_take, show min 8 2 = 2 from rfl, HN.out]
  go_wp2_with fail
  have e1 : IntKind.i64.wrap (2 + (n : Int)) = 2 + n := IntWalk.i64_in _ (by omega)
  have e2 : (0 : Int) ≤ 2 + n := by omega
  have e3 : (2 + (n : Int)).toNat = 2 + n := by omega
  have e4 : (2 : Int) ≤ 2 + n := by omega
  have e5 : 2 + (n : Int) ≤ s.length := by omega
  go_quiet (fail)
  clear e1 e2 e3
  go_wp2_with fail
  go_ret3
  refine ⟨ret_read (by congr 1) ?_, below_drewN (Below.refl _ _) _⟩
  rw [List.take_of_length_le (by simp), List.drop_drop]

set_option maxRecDepth 100000 in
set_option maxHeartbeats 400000 in
theorem sums_low (n : Nat) (w : World) (hn : n < 4294967296) :
    Calls Tryz.prog 87 #[.int .u32 n] w fun e w' => e = .returned (.string ⟨(crcLow n).toArray⟩) ∧ Below w.heap.size w w' := by
  have kc := fun (w : World) => Lib.run_convert_string_bytes (P := Tryz.prog) w 9 31 5 ⟨(be 4 n).toArray⟩ Tryz.underlying9 Tryz.underlying31 Tryz.underlying5
  go_enter Tryz.func87, Tryz.ntmps87
  go_wp2_with fail
  refine (nums_Put _ 4 _ (by omega) (by omega)).mono ?_
  rintro e w1 ⟨rfl, hb⟩
  go_wp2_with fail
  obtain ⟨wb, hwb⟩ : ∃ wb, wb = Lib.bytesWorld w1 5 ⟨(be 4 n).toArray⟩ := ⟨_, rfl⟩
  have hnew := Lib.bytesWorld_at_new w1 5 ⟨(be 4 n).toArray⟩
  rw [← hwb] at hnew ⊢
  have HW := Lib.hid hwb
  clear hwb kc
  obtain ⟨b0, b1, b2, b3, hbe⟩ : ∃ b0 b1 b2 b3, be 4 n = [b0, b1, b2, b3] := ⟨_, _, _, _, rfl⟩
  have c0 : wb.cell? ⟨w1.heap.size, 0, none⟩ = some (.int .u8 b0.toNat) := by simp [World.cell?, hnew, Lib.bytesCells, hbe, Array.getElem?_append]
  have c1 : wb.cell? ⟨w1.heap.size, 1, none⟩ = some (.int .u8 b1.toNat) := by simp [World.cell?, hnew, Lib.bytesCells, hbe, Array.getElem?_append]
  have c2 : wb.cell? ⟨w1.heap.size, 2, none⟩ = some (.int .u8 b2.toNat) := by simp [World.cell?, hnew, Lib.bytesCells, hbe, Array.getElem?_append]
  have c3 : wb.cell? ⟨w1.heap.size, 3, none⟩ = some (.int .u8 b3.toNat) := by simp [World.cell?, hnew, Lib.bytesCells, hbe, Array.getElem?_append]
  have f0 : wb.frozen? ⟨w1.heap.size, 0, none⟩ = false := by simp [World.frozen?, hnew, Lib.bytesCells, hbe]
  have f1 : wb.frozen? ⟨w1.heap.size, 1, none⟩ = false := by simp [World.frozen?, hnew, Lib.bytesCells, hbe]; omega
  have f2 : wb.frozen? ⟨w1.heap.size, 2, none⟩ = false := by simp [World.frozen?, hnew, Lib.bytesCells, hbe]; omega
  have f3 : wb.frozen? ⟨w1.heap.size, 3, none⟩ = false := by simp [World.frozen?, hnew, Lib.bytesCells, hbe]; omega
  have HBE := Lib.hid hbe
  have HNEW := Lib.hid hnew
  clear hbe hnew
  obtain ⟨W4, hW4⟩ : ∃ W4, W4 = (((wb.setCell ⟨w1.heap.size, 0, none⟩ (.int .u8 b3.toNat)).setCell ⟨w1.heap.size, 1, none⟩ (.int .u8 b2.toNat)).setCell ⟨w1.heap.size, 2, none⟩ (.int .u8 b1.toNat)).setCell ⟨w1.heap.size, 3, none⟩ (.int .u8 b0.toNat) := ⟨_, rfl⟩
  have h4 := block_setCell (i := 3) (block_setCell (i := 2) (block_setCell (i := 1) (block_setCell (i := 0) HNEW.out (.int .u8 b3.toNat)) (.int .u8 b2.toNat)) (.int .u8 b1.toNat)) (.int .u8 b0.toNat)
  rw [← hW4] at h4
  have hcv : (convert 31 9 (.slice (some ⟨w1.heap.size, 0, none⟩) 4 (grownCap w1 4 0 5))).run Tryz.prog W4.drew = .ok (.string ⟨[b3, b2, b1, b0].toArray⟩) W4.drew := by
    refine convert_cells rfl (fun i hi => ?_)
    show W4.cell? _ = _
    rw [cell_of_block h4]
    rcases (by simp at hi; omega : i = 0 ∨ i = 1 ∨ i = 2 ∨ i = 3) with rfl | rfl | rfl | rfl <;> simp [Lib.bytesCells, HBE.out, Array.getElem?_append]
  have hbl : Below w.heap.size w W4 := by
    have hz := hb.size
    rw [hW4]
    refine (((Below.setCell ?_ ?_ _).setCell ?_ _).setCell ?_ _).setCell ?_ _
    · rw [HW.out]
      exact hb.trans ⟨rfl, rfl, rfl, by rw [Lib.bytesWorld_size]; omega, fun k hk => Lib.bytesWorld_at_old _ _ _ _ (by omega)⟩
    all_goals exact hz
  have HW4 := Lib.hid hW4
  clear h4 hW4
  go_region
  rw [← HW4.out]
  go_wp2_with fail
  go_ret
  refine ⟨ret_str ?_, hbl.drew⟩
  unfold crcLow
  rw [HBE.out]
  rfl

set_option maxHeartbeats 400000 in
theorem sums_Seal (s : List UInt8) (w : World) (hs : s.length ≤ 140737488355328) :
    Calls Tryz.prog 38 #[.string ⟨s.toArray⟩] w fun e w' => e = .returned (.string ⟨(sealL s).toArray⟩) ∧ Below w.heap.size w w' := by
  have hlt := crc_lt s
  go_enter Tryz.func38, Tryz.ntmps38
  go_wp2_with fail
  refine (sums_Sum _ _ (by unfold maxLen; omega)).mono ?_
  rintro e w' ⟨rfl, rfl⟩
  go_wp2_with fail
  refine (sums_low _ _ hlt).mono ?_
  rintro e w' ⟨rfl, hb⟩
  go_wp2_with fail
  go_ret
  exact ⟨rfl, hb⟩

theorem openL_short {l : List UInt8} (h : l.length < 4) : openL l = none := by unfold openL; rw [if_pos h]
theorem openL_long {l : List UInt8} (h : ¬ l.length < 4) : openL l = if crcLow (crc (l.take (l.length - 4))) = l.drop (l.length - 4) then some (l.take (l.length - 4)) else none := by
  unfold openL; rw [if_neg h]
@[simp] theorem take_sub_drop {α : Type} (l : List α) (a : Nat) : (l.drop a).take (l.length - a) = l.drop a := List.take_of_length_le (by simp)
set_option maxRecDepth 100000 in
set_option maxHeartbeats 400000 in
theorem sums_Open_none (s : List UInt8) (w : World) (hs : s.length ≤ 140737488355328) (h : openL s = none) :
    Calls Tryz.prog 47 #[.string ⟨s.toArray⟩] w fun e w' => e = .returned (.tuple #[.string ⟨#[]⟩, .bool false]) ∧ Below w.heap.size w w' := by
  by_cases h4 : s.length < 4
  · clear h
    have h4' : decide ((s.length : Int) < 4) = true := by simp; omega
    go_enter Tryz.func47, Tryz.ntmps47
    go_wp2_with fail
    go_quiet (fail)
    go_wp2_with fail
    go_ret2
    exact ⟨rfl, below_drewN (Below.refl _ _) _⟩
  · rw [openL_long h4] at h
    have hne : (crcLow (crc (s.take (s.length - 4))) == s.drop (s.length - 4)) = false := by
      rw [beq_eq_false_iff_ne]; intro e; rw [if_pos e] at h; cases h
    have h4' : decide ((s.length : Int) < 4) = false := by simp; omega
    have hlt := crc_lt (s.take (s.length - 4))
    have e1 : IntKind.i64.wrap ((s.length : Int) - 4) = s.length - 4 := IntWalk.i64_in _ (by omega)
    have e2 : (0 : Int) ≤ s.length - 4 := by omega
    have e3 : ((s.length : Int) - 4).toNat = s.length - 4 := by omega
    have e4 : (4 : Int) ≤ s.length := by omega
    have e5 : (s.length : Int) - 4 ≤ s.length := by omega
    have e6 : ¬ (s.length : Int) < 4 := by omega
    clear h
    go_enter Tryz.func47, Tryz.ntmps47
    go_wp2_with fail
    go_region_held3 (fun w' => Below w.heap.size w w') (first | exact (Below.refl _ _).drew | exact (Below.refl _ _).drew.trans hb)
      ((first | (go_at_call 88; refine (sums_Sum _ _ (by simp [maxLen]; omega)).mono ?_; rintro e w' ⟨rfl, rfl⟩) | (go_at_call 87; refine (sums_low _ _ hlt).mono ?_; rintro e w' ⟨rfl, hb⟩)))
    clear e1 e3
    have hB := (Below.refl w.heap.size w).drew.trans hb
    go_wp2_with fail
    go_ret2
    exact ⟨rfl, hB⟩

set_option maxRecDepth 100000 in
set_option maxHeartbeats 400000 in
theorem sums_Open_some (s t : List UInt8) (w : World) (hs : s.length ≤ 140737488355328) (h : openL s = some t) :
    Calls Tryz.prog 47 #[.string ⟨s.toArray⟩] w fun e w' => e = .returned (.tuple #[.string ⟨t.toArray⟩, .bool true]) ∧ Below w.heap.size w w' := by
  by_cases h4 : s.length < 4
  · rw [openL_short h4] at h; cases h
  · rw [openL_long h4] at h
    have hne : (crcLow (crc (s.take (s.length - 4))) == s.drop (s.length - 4)) = true := by
      rw [beq_iff_eq]
      by_cases e : crcLow (crc (s.take (s.length - 4))) = s.drop (s.length - 4)
      · exact e
      · rw [if_neg e] at h; cases h
    rw [if_pos (by simpa using hne)] at h
    obtain rfl := Option.some.inj h
    have h4' : decide ((s.length : Int) < 4) = false := by simp; omega
    have hlt := crc_lt (s.take (s.length - 4))
    have e1 : IntKind.i64.wrap ((s.length : Int) - 4) = s.length - 4 := IntWalk.i64_in _ (by omega)
    have e2 : (0 : Int) ≤ s.length - 4 := by omega
    have e3 : ((s.length : Int) - 4).toNat = s.length - 4 := by omega
    have e4 : (4 : Int) ≤ s.length := by omega
    have e5 : (s.length : Int) - 4 ≤ s.length := by omega
    have e6 : ¬ (s.length : Int) < 4 := by omega
    clear h
    go_enter Tryz.func47, Tryz.ntmps47
    go_wp2_with fail
    go_region_held3 (fun w' => Below w.heap.size w w') (first | exact (Below.refl _ _).drew | exact (Below.refl _ _).drew.trans hb)
      ((first | (go_at_call 88; refine (sums_Sum _ _ (by simp [maxLen]; omega)).mono ?_; rintro e w' ⟨rfl, rfl⟩) | (go_at_call 87; refine (sums_low _ _ hlt).mono ?_; rintro e w' ⟨rfl, hb⟩)))
    clear e1 e3
    have hB := (Below.refl w.heap.size w).drew.trans hb
    go_wp2_with fail
    go_ret2
    exact ⟨rfl, hB⟩

/-- Behind a call that was made in a world with one new block: that block, the sizes, what lay below. -/
theorem blk_after {w w1 : World} {o : Obj} (hb : Below (w.alloc o).heap.size (w.alloc o) w1) : w1.heap[w.heap.size]? = some o := (hb.block _ (by simp)).trans (heap_alloc_new w o)
theorem size_after {w w1 : World} {o : Obj} (hb : Below (w.alloc o).heap.size (w.alloc o) w1) : w.heap.size < w1.heap.size := by have := hb.size; simp at this; omega
theorem below_after {w w1 : World} {o : Obj} (hb : Below (w.alloc o).heap.size (w.alloc o) w1) : Below w.heap.size w w1 :=
  ((Below.refl _ _).alloc (Nat.le_refl _) o).trans (hb.mono (by simp))
theorem blk_kept {w w1 : World} {b : Nat} {o : Obj} (hb : Below w.heap.size w w1) (h : w.heap[b]? = some o) : w1.heap[b]? = some o :=
  (hb.block b (Array.getElem?_eq_some_iff.1 h).1).trans h
theorem blk_lt {w : World} {b : Nat} {o : Obj} (h : w.heap[b]? = some o) : b < w.heap.size := (Array.getElem?_eq_some_iff.1 h).1
theorem ownsRow_base {w : World} {b b' : Nat} {e : TypeId} {size : Nat} {v : Value} {n : Nat} {xs : List Value} (h : w.ownsRow b e size v n xs) (hb : b' ≤ b) : w.ownsRow b' e size v n xs := by
  obtain ⟨h1, h2⟩ := h
  refine ⟨h1, ?_⟩
  rcases h2 with h2 | ⟨g, cap, cur, hv, hg, r⟩
  · exact .inl h2
  · exact .inr ⟨g, cap, cur, hv, Nat.le_trans hb hg, r⟩
theorem blk_new {w : World} {n : Nat} (hn : n = w.heap.size) (o : Obj) : (w.alloc o).heap[n]? = some o := by subst hn; exact heap_alloc_new w o
/-- A new block's cells, as the law on append asks for them. -/
theorem news_alloc {w : World} {n : Nat} (hn : n = w.heap.size) (cs : List Value) (t : TypeId) : ∀ j u, cs[j]? = some u → (w.alloc (.cells cs.toArray t)).cell? ((⟨n, 0, none⟩ : Addr).add j) = some u := by
  subst hn
  exact World.news_of_block (cs := cs.toArray) (heap_alloc_new w _)
/-- A row that was owned is owned behind a call that leaves all old blocks. -/
theorem ownsRow_below {w w' : World} {base : Nat} {e : TypeId} {size : Nat} {v : Value} {n : Nat} {xs : List Value} (h : w.ownsRow base e size v n xs) (hb : Below w.heap.size w w') : w'.ownsRow base e size v n xs := by
  obtain ⟨h1, h2⟩ := h
  refine ⟨h1, ?_⟩
  rcases h2 with h2 | ⟨g, cap, cur, hv, hg, hh, r⟩
  · exact .inl h2
  · exact .inr ⟨g, cap, cur, hv, hg, blk_kept hb hh, r⟩
theorem ownsRow_slice {w : World} {base : Nat} {e : TypeId} {size : Nat} {v : Value} {n : Nat} {xs : List Value} (h : w.ownsRow base e size v n xs) : ∃ a cap, v = .slice a n cap := by
  rcases h.2 with ⟨rfl, rfl⟩ | ⟨g, cap, cur, rfl, -⟩
  · exact ⟨none, 0, rfl⟩
  · exact ⟨_, _, rfl⟩
theorem blk_alloc {w : World} {b : Nat} {o o' : Obj} (h : w.heap[b]? = some o) : (w.alloc o').heap[b]? = some o := (Below.heap_alloc w o' b (blk_lt h)).trans h
end Go.Proofs.YtamlhndibcafgaaGreatDoor
