/- Contracts of package entries: ahead, Less, Search. -/
import Derived.Test.YtamlhndibcafgaaGreatDoorEntsP
import Derived.Test.YtamlhndibcafgaaGreatDoorMem2
import Derived.Test.YtamlhndibcafgaaGreatDoorBatch2
import Derived.WalkMore
namespace Go.Proofs.YtamlhndibcafgaaGreatDoor
open Go.RowKit Go.MapKept

set_option maxRecDepth 100000 in
set_option maxHeartbeats 1000000 in
theorem entries_ahead (e : En) (h : Nat) (v : Int) (w : World) :
    Calls Tryz.prog 223 #[e.val, .int .u64 h, .int .i64 v] w fun r w' => r = .returned (.bool (aheadB e h v)) ∧ Below w.heap.size w w' := by
  obtain ⟨eh, ev, ep⟩ := e
  unfold En.val
  simp only
  have HB := Lib.hid ((Below.refl w.heap.size w).alloc (Nat.le_refl _) (.cells #[.int .u64 eh, .int .i64 ev, .int .i64 ep] 142))
  by_cases h1 : eh < h
  · have HA := Lib.hid (show aheadB ⟨eh, ev, ep⟩ h v = true by rw [aheadB_iff]; exact .inl h1)
    have h1' : (eh : Int) < h := by omega
    go_enter Tryz.func223, Tryz.ntmps223
    go_wp2_with fail
    go_ret
    exact ⟨by rw [HA.out]; rfl, HB.out⟩
  · have h1' : ¬ (eh : Int) < h := by omega
    by_cases h2 : eh = h
    · subst h2
      by_cases h3 : (ev : Int) < v
      · have HA := Lib.hid (show aheadB ⟨eh, ev, ep⟩ eh v = true by rw [aheadB_iff]; exact .inr ⟨rfl, h3⟩)
        go_enter Tryz.func223, Tryz.ntmps223
        go_wp2_with fail
        go_ret
        exact ⟨by rw [HA.out]; rfl, HB.out⟩
      · have HA := Lib.hid (show aheadB ⟨eh, ev, ep⟩ eh v = false by
          cases hc : aheadB ⟨eh, ev, ep⟩ eh v with
          | false => rfl
          | true => rw [aheadB_iff] at hc; simp only at hc; omega)
        go_enter Tryz.func223, Tryz.ntmps223
        go_wp2_with fail
        go_ret
        exact ⟨by rw [HA.out]; rfl, HB.out⟩
    · have HA := Lib.hid (show aheadB ⟨eh, ev, ep⟩ h v = false by
          cases hc : aheadB ⟨eh, ev, ep⟩ h v with
          | false => rfl
          | true => rw [aheadB_iff] at hc; simp only at hc; omega)
      have h2' : ((eh : Int) == h) = false := by rw [beq_eq_false_iff_ne]; omega
      go_enter Tryz.func223, Tryz.ntmps223
      go_wp2_with fail
      go_ret
      exact ⟨by rw [HA.out]; rfl, HB.out⟩
set_option maxRecDepth 100000 in
set_option maxHeartbeats 1000000 in
theorem entries_Less (a b : En) (w : World) :
    Calls Tryz.prog 169 #[a.val, b.val] w fun r w' => r = .returned (.bool (lessB a b)) ∧ Below w.heap.size w w' := by
  obtain ⟨ah, av, ap⟩ := a
  obtain ⟨bh, bv, bp⟩ := b
  unfold En.val
  simp only
  have HB := Lib.hid (((Below.refl w.heap.size w).alloc (Nat.le_refl _) (.cells #[.int .u64 ah, .int .i64 av, .int .i64 ap] 142)).alloc (by simp) (.cells #[.int .u64 bh, .int .i64 bv, .int .i64 bp] 142))
  obtain ⟨R, hR⟩ : ∃ R, lessB ⟨ah, av, ap⟩ ⟨bh, bv, bp⟩ = R := ⟨_, rfl⟩
  have hR' := hR
  unfold lessB at hR'
  simp only at hR'
  rw [hR]
  have HR := Lib.hid hR'
  clear hR hR'
  by_cases h1 : ah = bh
  · subst h1
    by_cases h2 : av = bv
    · subst h2
      have H := Lib.hid (show decide (ap < bp) = R by rw [← HR.out]; exact decide_eq_decide.2 (by omega))
      go_enter Tryz.func169, Tryz.ntmps169
      go_wp2_with fail
      go_ret
      exact ⟨by rw [← H.out]; rfl, HB.out⟩
    · have h2' : ((av : Int) != bv) = true := by rw [bne_iff_ne]; omega
      have H := Lib.hid (show decide (av < bv) = R by rw [← HR.out]; exact decide_eq_decide.2 (by omega))
      go_enter Tryz.func169, Tryz.ntmps169
      go_wp2_with fail
      go_ret
      exact ⟨by rw [← H.out]; rfl, HB.out⟩
  · have h1' : ((ah : Int) != bh) = true := by rw [bne_iff_ne]; omega
    have H := Lib.hid (show decide (ah < bh) = R by rw [← HR.out]; exact decide_eq_decide.2 (by omega))
    go_enter Tryz.func169, Tryz.ntmps169
    go_wp2_with fail
    go_ret
    exact ⟨by rw [← H.out]; rfl, HB.out⟩
/-- A row of entries: each one's cells. -/
theorem ents_cell {w : World} {base : Nat} {a : Option Addr} {n cap : Nat} {l : List En} (hn : n = l.length) (h : w.ownsRow base 142 3 (.slice a n cap) n (rowsE l)) {i : Nat} (hi : i < l.length) :
    ∃ g, a = some ⟨g, 0, none⟩ ∧ w.cell? ⟨g, i * 3, none⟩ = some (.int .u64 l[i].h) ∧ w.cell? ⟨g, i * 3 + 1, none⟩ = some (.int .i64 l[i].v) ∧ w.cell? ⟨g, i * 3 + 2, none⟩ = some (.int .i64 l[i].p) := by
  subst hn
  obtain ⟨g, cap', e, -, -⟩ := h.form (by omega)
  cases e
  have hf : rowsE l = l.flatMap En.row := by unfold rowsE; rw [List.flatMap_def]
  have c := fun j (hj : j < 3) => ((h.cellAt (i * 3 + j) (by omega)).trans (by rw [hf]; exact flat_get En.row 3 (fun _ => rfl) l i j hi hj) : w.cell? ⟨g, i * 3 + j, none⟩ = (En.row l[i])[j]?)
  exact ⟨g, rfl, c 0 (by omega), c 1 (by omega), c 2 (by omega)⟩
set_option maxRecDepth 100000 in
set_option maxHeartbeats 1000000 in
theorem entries_Search (l : List En) (a : Option Addr) (cap h : Nat) (v : Int) (w : World) (hl : l.length ≤ 1000000) (hs : SortedE l) (hrow : w.ownsRow 0 142 3 (.slice a l.length cap) l.length (rowsE l)) :
    Calls Tryz.prog 168 #[.slice a l.length cap, .int .u64 h, .int .i64 v] w fun r w' => r = .returned (.int .i64 (searchE l h v)) ∧ Below w.heap.size w w' := by
  have HROW := Lib.hid (fun w' (hb : Below w.heap.size w w') => ownsRow_below hrow hb)
  have HS := Lib.hid hs
  clear hrow hs
  go_enter Tryz.func168, Tryz.ntmps168
  go_wp2_with fail
  go_step3
  go_wp2_with fail
  go_step3
  go_wp2_with fail
  go_loopw [7, 8] (fun lo hi wr => ∃ i j : Nat, lo = .int .i64 i ∧ hi = .int .i64 j ∧ i ≤ j ∧ j ≤ l.length ∧ (∀ k (hk : k < i) (hk2 : k < l.length), aheadB l[k] h v = true) ∧ (∀ k (_ : j ≤ k) (hk : k < l.length), aheadB l[k] h v = false) ∧ Below w.heap.size w wr) (fun lo hi _ => (intOf hi).toNat - (intOf lo).toNat)
  case atStart => exact ⟨0, l.length, rfl, rfl, by omega, by omega, fun k hk => by omega, fun k hk hk2 => by omega, Below.refl _ _⟩
  case round =>
    obtain ⟨i, j, rfl, rfl, hij, hj, hlo, hhi, hb⟩ := hrel
    have HLO := Lib.hid hlo
    have HHI := Lib.hid hhi
    have HB := Lib.hid hb
    clear hlo hhi hb
    obtain ⟨m, hm⟩ : ∃ m : Nat, i + (j - i) / 2 = m := ⟨_, rfl⟩
    have hmi : (i : Int) + ((j : Int) - i) / 2 = m := by omega
    by_cases hlt : i < j
    · have hm1 : i ≤ m := by omega
      have hm2 : m < j := by omega
      have hml : m < l.length := by omega
      obtain ⟨g, rfl, c0, c1, c2⟩ := ents_cell rfl (HROW.out wr HB.out) hml
      have hm0 : (0 : Int) ≤ m := by omega
      have hmL : (m : Int) < l.length := by omega
      have HC := Lib.hid (entries_ahead l[m] h v wr)
      unfold En.val at HC
      clear hm
      have HA := Lib.hid (rfl : aheadB l[m] h v = aheadB l[m] h v)
      cases hA : aheadB l[m] h v with
      | true =>
        rw [hA] at HC
        have HLO2 : Hid (∀ k (hk : k < m + 1) (hk2 : k < l.length), aheadB l[k] h v = true) := Lib.hid (fun k hk hk2 => ahead_mono HS.out (by omega) hml hA)
        clear hA HA
        go_wp2_with fail
        refine HC.out.mono ?_
        rintro e w2 ⟨rfl, hb2⟩
        have HB2 := Lib.hid (HB.out.trans (hb2.mono HB.out.size))
        clear hb2 c0 c1 c2
        go_wp2_with fail
        go_roundw
        case rel => exact ⟨m + 1, j, by go_num, rfl, by omega, hj, HLO2.out, HHI.out, HB2.out⟩
        case measure => simp [intOf]; omega
      | false =>
        rw [hA] at HC
        have HHI2 : Hid (∀ k (_ : m ≤ k) (hk : k < l.length), aheadB l[k] h v = false) := Lib.hid (fun k hk hk2 => by
          cases hc : aheadB l[k] h v with
          | false => rfl
          | true => rw [ahead_mono HS.out hk hk2 hc] at hA; cases hA)
        clear hA HA
        go_wp2_with fail
        refine HC.out.mono ?_
        rintro e w2 ⟨rfl, hb2⟩
        have HB2 := Lib.hid (HB.out.trans (hb2.mono HB.out.size))
        clear hb2 c0 c1 c2
        go_wp2_with fail
        go_roundw
        case rel => exact ⟨i, m, rfl, rfl, hm1, by omega, HLO.out, HHI2.out, HB2.out⟩
        case measure => simp [intOf]; omega
    · obtain rfl : i = j := by omega
      have HE := Lib.hid (searchE_eq hj (fun k hk => HLO.out k hk (by omega)) (fun hk => HHI.out i (Nat.le_refl _) hk))
      clear hm
      go_wp2_with fail
      rw [Exit.noGoto_ret]
      go_ret
      exact ⟨ret_int (by rw [HE.out]), HB.out⟩
end Go.Proofs.YtamlhndibcafgaaGreatDoor
