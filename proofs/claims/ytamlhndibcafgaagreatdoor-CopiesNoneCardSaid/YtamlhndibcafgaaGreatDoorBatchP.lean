/- Plain lists: what was put of events and batches is read again. No program in sight. -/
import Derived.Test.YtamlhndibcafgaaGreatDoorBatch1
namespace Go.Proofs.YtamlhndibcafgaaGreatDoor

theorem readL_text (a r : List UInt8) (h : a.length ≤ 65535) : readL (textL a ++ r) = some (a, r) := by
  rw [textL_of a h]
  have e : (be 2 a.length ++ a ++ r).take 2 = be 2 a.length := by
    rw [List.append_assoc, List.take_append_of_le_length (by simp), List.take_of_length_le (by simp)]
  have e2 : (be 2 a.length ++ a ++ r).drop 2 = a ++ r := by
    rw [List.append_assoc, List.drop_append_of_le_length (by simp), List.drop_of_length_le (by simp), List.nil_append]
  have e3 : beN (be 2 a.length) = a.length := beN_be_lt _ _ (by omega)
  unfold readL
  rw [e, e2, e3, if_neg (by simp), if_neg (by simp)]
  simp
theorem readE_bytes (e : Ev) (r : List UInt8) (h : checkE e = 0) (hw : e.wt < 18446744073709551616) : readE (bytesE e ++ r) = some (e, r) := by
  have hc : e.ty.length ≤ 16 ∧ e.da.length ≤ 200 := by
    unfold checkE at h
    split at h
    · cases h
    · split at h
      · cases h
      · omega
  have e8 : (be 8 e.wt ++ r).take 8 = be 8 e.wt := by rw [List.take_append_of_le_length (by simp), List.take_of_length_le (by simp)]
  have e9 : (be 8 e.wt ++ r).drop 8 = r := by rw [List.drop_append_of_le_length (by simp), List.drop_of_length_le (by simp), List.nil_append]
  have e3 : beN (be 8 e.wt) = e.wt := beN_be_lt _ _ (by rw [show (256 : Nat) ^ 8 = 18446744073709551616 by decide]; exact hw)
  unfold readE bytesE
  rw [if_pos h, List.append_assoc, List.append_assoc, readL_text _ _ (by omega)]
  dsimp only
  rw [readL_text _ _ (by omega)]
  dsimp only
  rw [if_neg (by simp), e8, e9, e3, if_pos h]
/-- Events that a batch may have. -/
def EvOk (e : Ev) : Prop := checkE e = 0 ∧ e.wt < 18446744073709551616
theorem EvOk.len {e : Ev} (h : EvOk e) : e.ty.length ≤ 16 ∧ e.da.length ≤ 200 ∧ e.ty ≠ [] := by
  have h := h.1
  unfold checkE at h
  split at h
  · cases h
  · rename_i h0
    split at h
    · cases h
    · exact ⟨by omega, by omega, h0⟩
def evsL (l : List Ev) : List UInt8 := (l.map bytesE).flatten
theorem evsL_cons (x : Ev) (l : List Ev) : evsL (x :: l) = bytesE x ++ evsL l := rfl
theorem putB_eq (st : List UInt8) (first : Nat) (l : List Ev) : putB st first l = textL st ++ (be 8 first ++ (be 1 l.length ++ evsL l)) := by
  simp [putB, evsL, List.append_assoc]
theorem evsL_le (l : List Ev) : (evsL l).length ≤ l.length * 228 := flat_le l
theorem firstBad_zero : ∀ {l : List Ev}, firstBad l = 0 ↔ ∀ e ∈ l, checkE e = 0 := by
  intro l
  induction l with
  | nil => simp [firstBad]
  | cons x l ih =>
    rw [firstBad]
    split
    · rename_i h; rw [ih]; simp [h]
    · rename_i h
      constructor
      · intro h2; exact absurd h2 h
      · intro h2; exact absurd (h2 x (List.mem_cons_self ..)) h
end Go.Proofs.YtamlhndibcafgaaGreatDoor
