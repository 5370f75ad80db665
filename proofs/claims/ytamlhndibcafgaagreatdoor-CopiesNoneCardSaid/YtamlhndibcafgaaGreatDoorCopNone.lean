/- annalistlaw35.CopiesNone answers true at every text. Conditions: the listed variables of utf8 are laid as the program's text lays them (the card ties them). -/
import Derived.Test.YtamlhndibcafgaaGreatDoorCop1
import Derived.Test.YtamlhndibcafgaaGreatDoorTie
import Derived.Test.YtamlhndibcafgaaGreatDoorCards
import Derived.ProofKit
import Derived.OpenShut
import Derived.ShutString
import Derived.LaidMore
import Derived.Lay
import Derived.SevenTiedAt
import Derived.Stop.Joined
namespace Go.Proofs.YtamlhndibcafgaaGreatDoor
open Go.ChangeShapes Go.WideShapes Go.ChangeAt Go.RowKit Go.MapKept
open Go.ChangeMaps (open_string shut_string)

set_option maxRecDepth 100000 in
set_option maxHeartbeats 4000000 in
theorem law35_CopiesNone (s : List UInt8) (w : World) : Calls Tryz.prog 4 #[.string ⟨s.toArray⟩] w fun e w' => e = .returned (.bool true) ∧ Below w.heap.size w w' := by
  by_cases hlong : 500 < s.length
  · go_enter Tryz.func4, Tryz.ntmps4
    go_wp2_with fail
    refine (law35_copied w).mono ?_
    rintro e w1 ⟨rfl, hb1⟩
    go_wp2_with fail
    go_ret
    exact ⟨rfl, hb1⟩
  · have HP0 : Hid (∀ w', Calls Tryz.prog 9 #[.slice none 0 0] w' fun e w'' => e = .returned (.tuple #[.string ⟨emptyC.toArray⟩, .int .i64 0]) ∧ Below w'.heap.size w' w'') :=
      Lib.hid (fun w' => copies_Put [] (.slice none 0 0) w' ⟨none, 0, rfl, by simp, fun i h => by simp at h⟩ (fun x hx => by simp at hx))
    have HL0 := Lib.hid (fun w' => copies_Load_nil emptyC [] w' (by rw [emptyC_len]; omega) emptyC_get)
    obtain ⟨a, ha⟩ : ∃ a, emptyC = a := ⟨_, rfl⟩
    rw [ha] at HP0 HL0
    have HG := Lib.hid (fun w' => copies_Get s w' (by omega))
    clear ha
    cases hg : getC s with
    | none =>
      have HN := Lib.hid hg
      have HLD := Lib.hid (fun w' => copies_Load_bad (.pointer none) s w' (by omega) hg)
      clear hg
      go_enter Tryz.func4, Tryz.ntmps4
      go_wp2_with fail
      refine (copies_Dump_nil w).mono ?_
      rintro e w1 ⟨rfl, rfl⟩
      go_wp2_with fail
      refine (HP0.out w).mono ?_
      rintro e w2 ⟨rfl, hb2⟩
      have HB2 := Lib.hid hb2
      clear hb2
      go_wp2_with fail
      refine (HL0.out w2).mono ?_
      rintro e w3 ⟨rfl, hb3⟩
      have HB3 := Lib.hid (HB2.out.trans (hb3.mono HB2.out.size))
      clear hb3
      go_wp2_with fail
      refine (HG.out w3).mono ?_
      intro e w4 hp
      obtain ⟨rfl, hb4⟩ := getPost_none hp HN.out
      have HB4 := Lib.hid (HB3.out.trans (hb4.mono HB3.out.size))
      clear hp hb4
      go_wp2_with fail
      refine (HLD.out w4).mono ?_
      rintro e w5 ⟨rfl, hb5⟩
      have HB5 := Lib.hid (HB4.out.trans (hb5.mono HB4.out.size))
      clear hb5
      go_wp2_with fail
      refine (law35_copied w5).mono ?_
      rintro e w6 ⟨rfl, hb6⟩
      have HB6 := Lib.hid (HB5.out.trans (hb6.mono HB5.out.size))
      clear hb6
      go_wp2_with fail
      go_ret
      exact ⟨rfl, HB6.out⟩
    | some l =>
      have HN := Lib.hid hg
      have HLD := Lib.hid (fun w' => copies_Load_nil s l w' (by omega) hg)
      clear hg
      go_enter Tryz.func4, Tryz.ntmps4
      go_wp2_with fail
      refine (copies_Dump_nil w).mono ?_
      rintro e w1 ⟨rfl, rfl⟩
      go_wp2_with fail
      refine (HP0.out w).mono ?_
      rintro e w2 ⟨rfl, hb2⟩
      have HB2 := Lib.hid hb2
      clear hb2
      go_wp2_with fail
      refine (HL0.out w2).mono ?_
      rintro e w3 ⟨rfl, hb3⟩
      have HB3 := Lib.hid (HB2.out.trans (hb3.mono HB2.out.size))
      clear hb3
      go_wp2_with fail
      refine (HG.out w3).mono ?_
      intro e w4 hp
      obtain ⟨v, rfl, -, hb4⟩ := getPost_some hp HN.out
      have HB4 := Lib.hid (HB3.out.trans (hb4.mono HB3.out.size))
      clear hp hb4
      go_wp2_with fail
      refine (HLD.out w4).mono ?_
      rintro e w5 ⟨rfl, hb5⟩
      have HB5 := Lib.hid (HB4.out.trans (hb5.mono HB4.out.size))
      clear hb5
      go_wp2_with fail
      refine (law35_copied w5).mono ?_
      rintro e w6 ⟨rfl, hb6⟩
      have HB6 := Lib.hid (HB5.out.trans (hb6.mono HB5.out.size))
      clear hb6
      go_wp2_with fail
      go_ret
      exact ⟨rfl, HB6.out⟩

theorem cn_own : ownKnob Tryz.prog.godebug = none := by kernel_rfl
set_option maxRecDepth 100000 in
theorem cn_lifted (os : Os) (started : os.Started) (H : Type) (enc : TypeId × Value → H) :
    ReturnsInHanded {} Tryz.checked os 4 .any (fun w args => (Rows.copiesNoneSpec.pre enc Tryz.prog Tryz.f4 Rows.copiesNoneRow.domain false w args ∧ laidMetH Tryz.prog Rows.copiesNoneRow.laid w) ∧ sizedMet enc Tryz.prog Tryz.f4 (OpenSpec.ofChange Rows.copiesNoneSpec) false w args)
      (Rows.copiesNoneSpec.post enc Tryz.prog Tryz.f4 false true false false) := by
  refine returnsInHanded_of_change_and (C := Tryz.checked) (X := fun w _ => laidMetH Tryz.prog Rows.copiesNoneRow.laid w) (fun _ _ _ hh h => h.of_heap hh) cn_own started (by kernel_rfl) Tryz.func4
    (ChangeSpec.witness_shaped (enc := enc) (C := Tryz.checked) (os := os) (X := fun w _ => laidMetH Tryz.prog Rows.copiesNoneRow.laid w) false (World.laidAll Tryz.prog os Rows.copiesNoneRow.laid) #[.string ByteArray.empty] 8 (World.laidAll_os _ _ _)
      (World.shaped_of_ZipB (by kernel_rfl) (by kernel_rfl)) (by kernel_rfl) (by kernel_rfl) (by kernel_rfl)
      (by rw [MakeChecks.laidMetH_plain _ _ _ (by kernel_rfl)]; exact laidMet_laidAll _ (by kernel_rfl) (by kernel_rfl))) ?_
  intro W base args ds gs before hval0 hW _ _ _ _
  have hval : ∀ (j : Nat) t v, Tryz.f4.params[j]? = some t → args[j]? = some v → Value.okWide Tryz.prog W .any base t v := hval0
  have hW' := hW
  obtain ⟨p, q, hA0, hV, rfl, _, _⟩ := hW
  have hA : DataW.TrodAll enc Tryz.prog W 0 (fun _ => true) true Tryz.f4.params.toList args.toList ds p := hA0
  rw [Tryz.params4] at hA hval
  obtain ⟨v0, d0, rfl, rfl, h0⟩ := trodAll_one hA
  obtain ⟨rfl, rfl⟩ := trodVars_none hV
  obtain ⟨a0, rfl, rfl, rfl, w0⟩ := open_string Tryz.underlying9 (hval 0 9 v0 rfl rfl) h0
  obtain ⟨s, rfl⟩ := str_lit a0
  refine (law35_CopiesNone s W).mono fun e W' ⟨he, bel⟩ => ?_
  subst he
  exact ⟨_, rfl, _, _, _, [], _, [], hW', trodAll_mk1 (shut_bool Tryz.underlying4 _), trodAll_mk1 (shut_string Tryz.underlying9 w0), rfl, bel.frame _, fun h => by cases h⟩
end Go.Proofs.YtamlhndibcafgaaGreatDoor
