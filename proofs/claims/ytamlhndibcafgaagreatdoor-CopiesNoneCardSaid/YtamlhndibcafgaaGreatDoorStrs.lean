/- Contracts of the few functions of package strings that the program calls on texts: HasPrefix, CutPrefix. -/
import Derived.Test.YtamlhndibcafgaaGreatDoorNums
namespace Go.Proofs.YtamlhndibcafgaaGreatDoor
open Go.RowKit

/-- Does a text begin with another one? -/
def prefB (l p : List UInt8) : Bool := l.take p.length == p
theorem prefB_short {l p : List UInt8} (h : ¬ p.length ≤ l.length) : prefB l p = false := by
  unfold prefB
  rw [beq_eq_false_iff_ne]
  intro e
  have := congrArg List.length e
  simp at this
  omega
theorem prefB_iff {l p : List UInt8} : prefB l p = true ↔ l.take p.length = p := by unfold prefB; exact beq_iff_eq
theorem prefB_len {l p : List UInt8} (h : prefB l p = true) : p.length ≤ l.length := by
  by_cases h2 : p.length ≤ l.length
  · exact h2
  · rw [prefB_short h2] at h; cases h
theorem prefB_append (p r : List UInt8) : prefB (p ++ r) p = true := by rw [prefB_iff]; simp
set_option maxHeartbeats 400000 in
theorem slite_HasPrefix (l p : List UInt8) (w : World) (_h1 : l.length ≤ maxLen) (_h2 : p.length ≤ maxLen) :
    Calls Tryz.prog 127 #[.string ⟨l.toArray⟩, .string ⟨p.toArray⟩] w fun e w' => e = .returned (.bool (prefB l p)) ∧ w = w' := by
  unfold maxLen at _h1 _h2
  by_cases h : p.length ≤ l.length
  · go_enter Tryz.func127, Tryz.ntmps127
    go_wp2_with fail
    go_ret
    exact ⟨rfl, rfl⟩
  · have H := Lib.hid (prefB_short h)
    go_enter Tryz.func127, Tryz.ntmps127
    go_wp2_with fail
    go_ret
    exact ⟨by rw [H.out]; rfl, rfl⟩
theorem strings_HasPrefix (l p : List UInt8) (w : World) (h1 : l.length ≤ maxLen) (h2 : p.length ≤ maxLen) :
    Calls Tryz.prog 175 #[.string ⟨l.toArray⟩, .string ⟨p.toArray⟩] w fun e w' => e = .returned (.bool (prefB l p)) ∧ w = w' := by
  go_enter Tryz.func175, Tryz.ntmps175
  go_wp2_with fail
  refine (slite_HasPrefix _ _ _ h1 h2).mono ?_
  rintro r w' ⟨rfl, rfl⟩
  go_wp2_with fail
  go_ret
  exact ⟨rfl, rfl⟩
/-- What is left behind a beginning; all, and false, if there is none. -/
def cutP (l p : List UInt8) : List UInt8 := if prefB l p = true then l.drop p.length else l
set_option maxHeartbeats 400000 in
theorem strings_CutPrefix (l p : List UInt8) (w : World) (h1 : l.length ≤ maxLen) (h2 : p.length ≤ maxLen) :
    Calls Tryz.prog 48 #[.string ⟨l.toArray⟩, .string ⟨p.toArray⟩] w fun e w' => e = .returned (.tuple #[.string ⟨(cutP l p).toArray⟩, .bool (prefB l p)]) ∧ w = w' := by
  cases hb : prefB l p with
  | false =>
    have H := Lib.hid (show cutP l p = l by simp [cutP, hb])
    have H2 := Lib.hid hb
    clear hb
    go_enter Tryz.func48, Tryz.ntmps48
    go_wp2_with (go_at_call 90; go_in)
    refine (slite_HasPrefix _ _ _ h1 h2).mono ?_
    rintro r w' ⟨rfl, rfl⟩
    rw [H2.out]
    go_wp2_with fail
    go_ret2
    exact ⟨by rw [H.out]; rfl, rfl⟩
  | true =>
    have H := Lib.hid (show cutP l p = l.drop p.length by simp [cutP, hb])
    have hl := prefB_len hb
    have H2 := Lib.hid hb
    clear hb
    go_enter Tryz.func48, Tryz.ntmps48
    go_wp2_with (go_at_call 90; go_in)
    refine (slite_HasPrefix _ _ _ h1 h2).mono ?_
    rintro r w' ⟨rfl, rfl⟩
    rw [H2.out]
    unfold maxLen at h1 h2
    go_wp2_with fail
    go_ret2
    exact ⟨by rw [H.out]; rfl, rfl⟩
end Go.Proofs.YtamlhndibcafgaaGreatDoor
