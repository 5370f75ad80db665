/- Plain lists: files' names, records, chunks. No program in sight. -/
import Derived.Test.YtamlhndibcafgaaGreatDoorPure
namespace Go.Proofs.YtamlhndibcafgaaGreatDoor

/-- So many digits of a number. -/
def dec : Nat → Nat → List UInt8
  | 0, _ => []
  | k + 1, n => dec k (n / 10) ++ [UInt8.ofNat (48 + n % 10)]
@[simp] theorem dec_length (k : Nat) : ∀ n, (dec k n).length = k := by
  induction k with
  | zero => intro n; rfl
  | succ k ih => intro n; simp [dec, ih]
theorem dec_getElem (k : Nat) : ∀ (n j : Nat) (_ : j < k), (dec k n)[j]? = some (UInt8.ofNat (48 + n / 10 ^ (k - 1 - j) % 10)) := by
  induction k with
  | zero => intro n j h; omega
  | succ k ih =>
    intro n j h
    rw [dec, List.getElem?_append]
    by_cases hj : j < k
    · rw [if_pos (by rw [dec_length]; exact hj), ih _ _ hj, Nat.div_div_eq_div_mul]
      have : 10 * 10 ^ (k - 1 - j) = 10 ^ (k + 1 - 1 - j) := by
        rw [← Nat.pow_succ']; congr 1; omega
      rw [this]
    · have : j = k := by omega
      subst this
      rw [if_neg (by rw [dec_length]; omega), dec_length]; simp
/-- A file's name: a letter and six digits. -/
def fileL (c : UInt8) (n : Nat) : List UInt8 := c :: dec 6 n
@[simp] theorem fileL_length (c : UInt8) (n : Nat) : (fileL c n).length = 7 := by simp [fileL]
def chunkL (n : Nat) : List UInt8 := fileL 99 n

/-- A record of a payload; the payload of the record that stands at a place, and the place behind it. -/
def recL (p : List UInt8) : List UInt8 := sealL (be 4 p.length ++ p) ++ be 4 p.length
@[simp] theorem recL_length (p : List UInt8) : (recL p).length = p.length + 12 := by simp [recL]; omega
def longAt (s : List UInt8) (i : Nat) : Nat := beN ((s.drop i).take 4)
def getR (s : List UInt8) (i : Nat) : Option (List UInt8 × Nat) :=
  if s.length < i + 12 then none
  else if 2000 < longAt s i ∨ s.length < longAt s i + 12 + i then none
  else match openL ((s.drop i).take (longAt s i + 8)) with
    | none => none
    | some b => if (s.drop (i + longAt s i + 8)).take 4 = (s.drop i).take 4 then some (b.drop 4, i + longAt s i + 12) else none
theorem getR_next {s : List UInt8} {i : Nat} {p : List UInt8} {j : Nat} (h : getR s i = some (p, j)) : i + 12 ≤ j ∧ j ≤ s.length := by
  unfold getR at h
  split at h
  · cases h
  · split at h
    · cases h
    · split at h
      · cases h
      · split at h
        · simp only [Option.some.injEq, Prod.mk.injEq] at h
          omega
        · cases h
theorem beN_be_lt (k n : Nat) (h : n < 256 ^ k) : beN (be k n) = n := by rw [beN_be, Nat.mod_eq_of_lt h]
/-- The record that was put is got. -/
theorem getR_put (a p b : List UInt8) (hp : p.length ≤ 2000) : getR (a ++ (recL p ++ b)) a.length = some (p, a.length + (p.length + 12)) := by
  have hl : longAt (a ++ (recL p ++ b)) a.length = p.length := by
    unfold longAt
    rw [List.drop_left, List.take_append_of_le_length (by simp)]
    unfold recL sealL
    rw [List.append_assoc, List.append_assoc, List.take_append_of_le_length (by simp), List.take_of_length_le (by simp)]
    exact beN_be_lt _ _ (by omega)
  unfold getR
  rw [hl, if_neg (by simp; omega), if_neg (by simp; omega)]
  have h1 : ((a ++ (recL p ++ b)).drop a.length).take (p.length + 8) = sealL (be 4 p.length ++ p) := by
    rw [List.drop_left, List.take_append_of_le_length (by simp)]
    unfold recL
    rw [List.take_append_of_le_length (by simp; omega), List.take_of_length_le (by simp; omega)]
  have h2 : ((a ++ (recL p ++ b)).drop (a.length + p.length + 8)).take 4 = be 4 p.length := by
    rw [show a.length + p.length + 8 = a.length + (p.length + 8) by omega, ← List.drop_drop, List.drop_left, List.drop_append_of_le_length (by simp)]
    unfold recL
    rw [List.drop_append_of_le_length (by simp; omega), List.drop_of_length_le (by simp; omega), List.nil_append, List.take_append_of_le_length (by simp), List.take_of_length_le (by simp)]
  have h3 : ((a ++ (recL p ++ b)).drop a.length).take 4 = be 4 p.length := by
    rw [List.drop_left, List.take_append_of_le_length (by simp)]
    unfold recL sealL
    rw [List.append_assoc, List.append_assoc, List.take_append_of_le_length (by simp), List.take_of_length_le (by simp)]
  rw [h1, openL_seal, h2, h3]
  simp; omega

/-- Where the records stand from a place on, and where they end. -/
def wholeR (s : List UInt8) : Nat → Nat → List Nat × Nat
  | 0, i => ([], i)
  | f + 1, i => match getR s i with
    | none => ([], i)
    | some (_, j) => (i :: (wholeR s f j).1, (wholeR s f j).2)
def headL (n : Nat) : List UInt8 := sealL ([99, 104, 110, 107] ++ be 4 n)
@[simp] theorem headL_length (n : Nat) : (headL n).length = 12 := by simp [headL]
/-- Records, one behind the other. -/
def recsL (l : List (List UInt8)) : List UInt8 := (l.map recL).flatten
def chunkB (n : Nat) (l : List (List UInt8)) : List UInt8 := headL n ++ recsL l
/-- Where they stand. -/
def placesL : Nat → List (List UInt8) → List Nat
  | _, [] => []
  | i, p :: l => i :: placesL (i + (p.length + 12)) l
theorem recsL_cons (p : List UInt8) (l : List (List UInt8)) : recsL (p :: l) = recL p ++ recsL l := rfl
theorem getR_nil (s : List UInt8) (i : Nat) (h : s.length < i + 12) : getR s i = none := by unfold getR; rw [if_pos h]
theorem wholeR_recs (l : List (List UInt8)) : ∀ (f : Nat) (a : List UInt8), l.length < f → (∀ p ∈ l, p.length ≤ 2000) →
    wholeR (a ++ recsL l) f a.length = (placesL a.length l, (a ++ recsL l).length) := by
  induction l with
  | nil =>
    intro f a hf _
    obtain ⟨f, rfl⟩ : ∃ g, f = g + 1 := ⟨f - 1, by simp at hf; omega⟩
    rw [wholeR, getR_nil _ _ (by simp [recsL])]
    simp [recsL, placesL]
  | cons p l ih =>
    intro f a hf hp
    obtain ⟨f, rfl⟩ : ∃ g, f = g + 1 := ⟨f - 1, by simp at hf; omega⟩
    have h := ih f (a ++ recL p) (by simp at hf; omega) (fun q hq => hp q (List.mem_cons_of_mem _ hq))
    rw [wholeR, recsL_cons, getR_put a p (recsL l) (hp p (List.mem_cons_self ..)), placesL]
    simp only [List.append_assoc, List.length_append, recL_length] at h ⊢
    rw [h]
end Go.Proofs.YtamlhndibcafgaaGreatDoor
