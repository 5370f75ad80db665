/- Contracts of the packages records and chunks: size, Put, Get; Head, Fits. -/
import Derived.Test.YtamlhndibcafgaaGreatDoorNames
import Derived.Test.YtamlhndibcafgaaGreatDoorEvents
import Derived.Test.YtamlhndibcafgaaGreatDoorStrs
namespace Go.Proofs.YtamlhndibcafgaaGreatDoor
open Go.RowKit

set_option maxHeartbeats 400000 in
theorem records_size (n : Nat) (w : World) (hn : n ≤ 140737488355328) :
    Calls Tryz.prog 159 #[.int .i64 n] w fun e w' => e = .returned (.string ⟨(be 4 n).toArray⟩) ∧ Below w.heap.size w w' := by
  go_enter Tryz.func159, Tryz.ntmps159
  go_wp2_with fail
  refine (nums_Put _ 4 _ (by omega) (by omega)).mono ?_
  rintro e w' ⟨rfl, hb⟩
  go_wp2_with fail
  go_ret
  exact ⟨rfl, hb⟩

set_option maxHeartbeats 400000 in
theorem records_Put_long (p : List UInt8) (w : World) (hs : p.length ≤ 140737488355328) (h : 2000 < p.length) :
    Calls Tryz.prog 116 #[.string ⟨p.toArray⟩] w fun e w' => e = .returned (.tuple #[.string ⟨#[]⟩, .int .i64 3]) ∧ w = w' := by
  go_enter Tryz.func116, Tryz.ntmps116
  go_wp2_with fail
  go_ret2
  exact ⟨rfl, rfl⟩

set_option maxRecDepth 100000 in
set_option maxHeartbeats 400000 in
theorem records_Put (p : List UInt8) (w : World) (h : p.length ≤ 2000) :
    Calls Tryz.prog 116 #[.string ⟨p.toArray⟩] w fun e w' => e = .returned (.tuple #[.string ⟨(recL p).toArray⟩, .int .i64 0]) ∧ Below w.heap.size w w' := by
  have hl : ¬ 9223372036854775807 < (be 4 p.length ++ p).length := by simp; omega
  have hl2 : ¬ 9223372036854775807 < (sealL (be 4 p.length ++ p) ++ be 4 p.length).length := by simp; omega
  go_enter Tryz.func116, Tryz.ntmps116
  go_wp2_with fail
  refine (records_size _ _ (by omega)).mono ?_
  rintro e w1 ⟨rfl, hb1⟩
  go_wp2_with fail
  refine (sums_Seal _ _ (by simp; omega)).mono ?_
  rintro e w2 ⟨rfl, hb2⟩
  go_wp2_with fail
  refine (records_size _ _ (by omega)).mono ?_
  rintro e w3 ⟨rfl, hb3⟩
  go_wp2_with fail
  go_ret2
  exact ⟨rfl, hb1.trans ((hb2.mono hb1.size).trans (hb3.mono (Nat.le_trans hb1.size hb2.size)))⟩

theorem getR_short {s : List UInt8} {i : Nat} (h : ¬ s.length < i + 12) : getR s i = if 2000 < longAt s i ∨ s.length < longAt s i + 12 + i then none
  else match openL ((s.drop i).take (longAt s i + 8)) with
    | none => none
    | some b => if (s.drop (i + longAt s i + 8)).take 4 = (s.drop i).take 4 then some (b.drop 4, i + longAt s i + 12) else none := by
  unfold getR; rw [if_neg h]; rfl
theorem getR_in {s : List UInt8} {i : Nat} (h : ¬ s.length < i + 12) (h2 : ¬ (2000 < longAt s i ∨ s.length < longAt s i + 12 + i)) :
    getR s i = match openL ((s.drop i).take (longAt s i + 8)) with
    | none => none
    | some b => if (s.drop (i + longAt s i + 8)).take 4 = (s.drop i).take 4 then some (b.drop 4, i + longAt s i + 12) else none := by
  rw [getR_short h, if_neg h2]
theorem longAt_lt (s : List UInt8) (i : Nat) : longAt s i < 4294967296 := by
  have h := beN_lt ((s.drop i).take 4)
  have h3 : 256 ^ ((s.drop i).take 4).length ≤ 256 ^ 4 := Nat.pow_le_pow_right (by omega) (List.length_take_le 4 _)
  unfold longAt; omega
theorem openL_len {l t : List UInt8} (h : openL l = some t) : l.length = t.length + 4 := by rw [openL_some h]; simp
/-- What Get answers. -/
def GetRPost (w : World) (r : Option (List UInt8 × Nat)) (e : Ending) (w' : World) : Prop :=
  (match r with
    | none => e = .returned (.tuple #[.string ⟨#[]⟩, .int .i64 0, .bool false])
    | some (p, j) => e = .returned (.tuple #[.string ⟨p.toArray⟩, .int .i64 j, .bool true])) ∧ Below w.heap.size w w'
theorem GetRPost.none {w w' : World} {r : Option (List UInt8 × Nat)} {e : Ending} (hr : r = .none) (h : e = .returned (.tuple #[.string ⟨#[]⟩, .int .i64 0, .bool false])) (hb : Below w.heap.size w w') : GetRPost w r e w' := by subst hr; exact ⟨h, hb⟩
theorem GetRPost.some {w w' : World} {r : Option (List UInt8 × Nat)} {e : Ending} {p : List UInt8} {j : Nat} (hr : r = .some (p, j)) (h : e = .returned (.tuple #[.string ⟨p.toArray⟩, .int .i64 j, .bool true])) (hb : Below w.heap.size w w') : GetRPost w r e w' := by subst hr; exact ⟨h, hb⟩
set_option maxRecDepth 100000 in
set_option maxHeartbeats 1000000 in
theorem records_Get (s : List UInt8) (i : Nat) (w : World) (hs : s.length ≤ 140737488355328) (hi : i ≤ 140737488355328) :
    Calls Tryz.prog 133 #[.string ⟨s.toArray⟩, .int .i64 i] w (GetRPost w (getR s i)) := by
  by_cases h1 : s.length < i + 12
  · have HX := Lib.hid (getR_nil s i h1)
    go_enter Tryz.func133, Tryz.ntmps133
    go_wp2_with fail
    go_ret3
    exact .none HX.out rfl (Below.refl _ _)
  · have hlt := longAt_lt s i
    have HL := Lib.hid (show beN (((s.drop i).take 4).take 8) = longAt s i by rw [List.take_take]; rfl)
    have HX := Lib.hid (getR_short h1)
    have e1 : (0 : Int) ≤ i := by omega
    by_cases h2 : 2000 < longAt s i ∨ s.length < longAt s i + 12 + i
    · rw [if_pos h2] at HX
      go_enter Tryz.func133, Tryz.ntmps133
      go_wp2_with fail
      refine (nums_Get _ _ (by simp [maxLen]; omega)).mono ?_
      rintro e w1 ⟨rfl, rfl⟩
      rw [HL.out]
      generalize longAt s i = n at *
      rcases (by omega : 2000 < n ∨ (n ≤ 2000 ∧ s.length < n + 12 + i)) with h3 | ⟨h3, h4⟩
      all_goals
        clear h2
        go_wp2_with fail
        go_ret3
        exact .none HX.out rfl (Below.refl _ _)
    · rw [if_neg h2] at HX
      have hn : longAt s i ≤ 2000 ∧ longAt s i + 12 + i ≤ s.length := by omega
      clear h2 h1 hlt
      generalize longAt s i = n at *
      obtain ⟨h3, h4⟩ := hn
      have hlen : ((s.drop i).take (n + 8)).length = n + 8 := by rw [List.length_take, List.length_drop]; omega
      have e2 : IntKind.i64.wrap ((i : Int) + n) = i + n := IntWalk.i64_in _ (by omega)
      have e3 : IntKind.i64.wrap ((i : Int) + n + 12) = i + n + 12 := IntWalk.i64_in _ (by omega)
      have e4 : IntKind.i64.wrap ((i : Int) + n + 12 - 4) = i + n + 12 - 4 := IntWalk.i64_in _ (by omega)
      cases ho : openL ((s.drop i).take (n + 8)) with
      | none =>
        have HO := Lib.hid ho
        rw [ho] at HX
        clear ho hlen
        go_enter Tryz.func133, Tryz.ntmps133
        go_wp2_with fail
        refine (nums_Get _ _ (by simp [maxLen]; omega)).mono ?_
        rintro e w1 ⟨rfl, rfl⟩
        rw [HL.out]
        go_wp2_with fail
        rw [show i + n + 8 - i = n + 8 by omega]
        refine (sums_Open_none _ _ (by rw [List.length_take]; omega) HO.out).mono ?_
        rintro e w1 ⟨rfl, hb⟩
        go_wp2_with fail
        go_quiet (fail)
        go_wp2_with fail
        go_ret3
        exact .none HX.out rfl (hb.trans (below_drewN (Below.refl _ _) _))
      | some b =>
        have HO := Lib.hid ho
        rw [ho] at HX
        have hb4 := openL_len ho
        rw [hlen] at hb4
        clear ho hlen
        have e5 : (0 : Int) ≤ i + n + 8 := by omega
        have e6 : (i : Int) + n + 8 ≤ i + n + 12 := by omega
        have e7 : (i : Int) + n + 12 ≤ s.length := by omega
        have e8 : IntKind.i64.wrap ((i : Int) + 4) = i + 4 := IntWalk.i64_in _ (by omega)
        have e9 : (i : Int) ≤ i + 4 := by omega
        have e10 : (i : Int) + 4 ≤ s.length := by omega
        have e11 : ((i : Int) + n + 12 - 4) = i + n + 8 := by omega
        have e12 : ((i : Int) + n + 8).toNat = i + n + 8 := by omega
        have e13 : ((i : Int) + n + 12).toNat = i + n + 12 := by omega
        have e14 : ((i : Int) + 4).toNat = i + 4 := by omega
        rw [e11] at e4
        cases hq : ((s.drop (i + n + 8)).take 4 == (s.drop i).take 4) with
        | true =>
          have HX2 := Lib.hid (HX.out.trans (if_pos (by simpa using hq)))
          go_enter Tryz.func133, Tryz.ntmps133
          go_wp2_with fail
          refine (nums_Get _ _ (by simp [maxLen]; omega)).mono ?_
          rintro e w1 ⟨rfl, rfl⟩
          rw [HL.out]
          go_wp2_with fail
          rw [show i + n + 8 - i = n + 8 by omega]
          refine (sums_Open_some _ _ _ (by rw [List.length_take]; omega) HO.out).mono ?_
          rintro e w1 ⟨rfl, hb⟩
          go_wp2_with fail
          go_quiet (fail)
          clear e2 e3 e4 e8
          go_wp2_with fail
          go_ret3
          exact .some HX2.out rfl (hb.trans (below_drewN (Below.refl _ _) _))
        | false =>
          have HX2 := Lib.hid (HX.out.trans (if_neg (by simpa using hq)))
          go_enter Tryz.func133, Tryz.ntmps133
          go_wp2_with fail
          refine (nums_Get _ _ (by simp [maxLen]; omega)).mono ?_
          rintro e w1 ⟨rfl, rfl⟩
          rw [HL.out]
          go_wp2_with fail
          rw [show i + n + 8 - i = n + 8 by omega]
          refine (sums_Open_some _ _ _ (by rw [List.length_take]; omega) HO.out).mono ?_
          rintro e w1 ⟨rfl, hb⟩
          go_wp2_with fail
          go_quiet (fail)
          clear e2 e3 e4 e8
          go_wp2_with fail
          go_ret3
          exact .none HX2.out rfl (hb.trans (below_drewN (Below.refl _ _) _))
end Go.Proofs.YtamlhndibcafgaaGreatDoor
