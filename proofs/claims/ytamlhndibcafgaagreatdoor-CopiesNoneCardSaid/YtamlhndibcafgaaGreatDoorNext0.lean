/- The plain side of a log's Next. -/
import Derived.Test.YtamlhndibcafgaaGreatDoorWhole
namespace Go.Proofs.YtamlhndibcafgaaGreatDoor

def payAt (s : List UInt8) (i : Nat) : List UInt8 := match getR s i with
  | none => []
  | some (p, _) => p
theorem eachR_mem {s : List UInt8} : ∀ (f i : Nat) {x : Nat × Nat}, x ∈ eachR s f i → getR s x.1 = some (payAt s x.1, x.2) := by
  intro f
  induction f with
  | zero => intro i x h; cases h
  | succ f ih =>
    intro i x h
    rw [eachR] at h
    cases hr : getR s i with
    | none => rw [hr] at h; cases h
    | some y =>
      obtain ⟨p, j⟩ := y
      rw [hr] at h
      rcases List.mem_cons.1 h with rfl | h
      · simp [payAt, hr]
      · exact ih j h
theorem eachR_le {s : List UInt8} {f i : Nat} {x : Nat × Nat} (h : x ∈ eachR s f i) : x.1 + 12 ≤ x.2 ∧ x.2 ≤ s.length := getR_next (eachR_mem f i h)
/-- The first record of a chunk that stands at a place or behind it. -/
def nextC (s : List UInt8) (n pos : Nat) : Option (List UInt8 × Nat × Nat) :=
  ((eachR s (s.length + 1) 12).find? fun x => decide (pos ≤ n * 4096 + x.1)).map fun x => (payAt s x.1, n * 4096 + x.1, n * 4096 + x.2)
/-- .. of all chunks from one on. -/
def nextL (cs : List (List UInt8)) (pos : Nat) : Nat → Nat → Option (List UInt8 × Nat × Nat)
  | 0, _ => none
  | f + 1, n => match cs[n]? with
    | none => none
    | some s => match nextC s n pos with
      | some x => some x
      | none => nextL cs pos f (n + 1)
theorem nextL_some {cs : List (List UInt8)} {pos f n : Nat} {s : List UInt8} {x : List UInt8 × Nat × Nat} (h : cs[n]? = some s) (hx : nextC s n pos = some x) : nextL cs pos (f + 1) n = some x := by
  rw [nextL, h]; simp only; rw [hx]
theorem nextL_none {cs : List (List UInt8)} {pos f n : Nat} {s : List UInt8} (h : cs[n]? = some s) (hx : nextC s n pos = none) : nextL cs pos (f + 1) n = nextL cs pos f (n + 1) := by
  rw [nextL, h]; simp only; rw [hx]
theorem find_take_none {α : Type} {l : List α} {q : α → Bool} {m : Nat} (h : (l.take m).find? q = none) (hm : m < l.length) (hq : q l[m] = false) : (l.take (m + 1)).find? q = none := by
  rw [List.take_succ_eq_append_getElem hm, List.find?_append, h]; simp [hq]
theorem find_take_some {α : Type} {l : List α} {q : α → Bool} {m : Nat} (h : (l.take m).find? q = none) (hm : m < l.length) (hq : q l[m] = true) : l.find? q = some l[m] := by
  have : l = l.take m ++ (l[m] :: l.drop (m + 1)) := by rw [List.getElem_cons_drop, List.take_append_drop]
  conv => lhs; rw [this]
  rw [List.find?_append, h, Option.none_or, List.find?_cons, hq]
theorem find_take_all {α : Type} {l : List α} {q : α → Bool} {m : Nat} (h : (l.take m).find? q = none) (hm : l.length ≤ m) : l.find? q = none := by
  rwa [List.take_of_length_le hm] at h
end Go.Proofs.YtamlhndibcafgaaGreatDoor
