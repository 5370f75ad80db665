/- Contract of index.Add. -/
import Derived.Test.YtamlhndibcafgaaGreatDoorMem3
namespace Go.Proofs.YtamlhndibcafgaaGreatDoor
open Go.RowKit Go.MapKept

def Ix.put (X : Ix) (mv : Value) (l : List En) : Ix := { X with mv := mv, ents := l }
def IxAddPost (b : Nat) (X : Ix) (e : En) (w : World) (r : Ending) (w' : World) : Prop :=
  r = .returned (.int .i64 0) ∧ ∃ mv, IxAt w' b (X.put mv (insE X.ents e)) ∧ (∀ k, mv.ownBlock = some k → w.heap.size ≤ k) ∧ Upd (· = X.bm) w w'
theorem IxAt.put {w w' : World} {b : Nat} {X : Ix} {mv : Value} {l : List En} (h : IxAt w b X) (hu : Upd (· = X.bm) w w') (hm : w'.heap[X.bm]? = some (.cells #[.bool true, mv] 232))
    (hr : w'.ownsRow 0 142 3 mv l.length (rowsE l)) (hnew : ∀ k, mv.ownBlock = some k → w.heap.size ≤ k) (hl : l.length ≤ 1000000) (he : ∀ e ∈ l, e.h < 18446744073709551616 ∧ e.v ≤ 1073741824 ∧ e.p ≤ 100000000) : IxAt w' b (X.put mv l) where
  blk := hu.kept h.blk h.ne
  mem := hm
  row := hr
  ne := h.ne
  self := ⟨fun e => by have := hnew _ e; have := blk_lt h.blk; omega, fun e => by have h1 := hnew _ e; have h2 := blk_lt h.mem; have h3 : (X.put mv l).bm = X.bm := rfl; omega⟩
  many := hl
  each := he
theorem putEn_ne (e : En) : ((putEn e) == []) = false := by
  rw [beq_eq_false_iff_ne]
  intro h
  have := congrArg List.length h
  simp [putEn] at this
set_option maxRecDepth 100000 in
set_option maxHeartbeats 2000000 in
theorem index_Add (b : Nat) (X : Ix) (e : En) (w : World) (hx : IxAt w b X) (hs : SortedE X.ents) (hn : e ∉ X.ents) (he : e.h < 18446744073709551616 ∧ e.v ≤ 1073741824 ∧ e.p ≤ 100000000) (hl : X.ents.length < 1000000) :
    Calls Tryz.prog 84 #[.pointer (some ⟨b, 0, none⟩), e.val] w (IxAddPost b X e w) := by
  obtain ⟨a, cap, hmv⟩ := ownsRow_slice hx.row
  have HPUT := Lib.hid (fun w' => entries_Put e w' he.2.1 he.2.2)
  have HADD : Hid (∀ w', IxAt w' b X → Calls Tryz.prog 123 #[.pointer (some ⟨X.bm, 0, none⟩), e.val] w' (AddPost X.bm e X.ents w')) := Lib.hid (fun w' h => by
    have hm := h.mem
    have hr := h.row
    have hsf := h.self.2
    rw [hmv] at hm hr hsf
    exact memtable_Add X.bm e X.ents a cap w' hm hr hs hn (by omega) hsf)
  have HEND : Hid (∀ w' w'' r, IxAt w' b X → AddPost X.bm e X.ents w' r w'' → ∃ mv, IxAt w'' b (X.put mv (insE X.ents e)) ∧ (∀ k, mv.ownBlock = some k → w'.heap.size ≤ k) ∧ Upd (· = X.bm) w' w'') := Lib.hid (fun w' w'' r h hp => by
    obtain ⟨-, mv, h1, h2, h3⟩ := hp
    have hnew : ∀ k, mv.ownBlock = some k → w'.heap.size ≤ k := fun k hk => (World.ownsRow.lt h2 _ hk).1
    refine ⟨mv, h.put h3 h1 ?_ hnew ?_ ?_, hnew, h3⟩
    · rw [insE_length]; exact ownsRow_base h2 (Nat.zero_le _)
    · rw [insE_length]; omega
    · intro x hxm
      rcases mem_insE.1 hxm with rfl | hxm
      · exact he
      · exact h.each x hxm)
  have HNE := Lib.hid (putEn_ne e)
  obtain ⟨h, v, p⟩ := e
  unfold En.val at HPUT HADD ⊢
  simp only at HPUT HADD ⊢
  have hB := (Below.refl w.heap.size w).alloc (Nat.le_refl _) (.cells #[.int .u64 h, .int .i64 v, .int .i64 p] 142)
  have hk := blk_new (w := w) rfl (.cells #[.int .u64 h, .int .i64 v, .int .i64 p] 142)
  obtain ⟨W, hW⟩ : ∃ W, w.alloc (.cells #[.int .u64 h, .int .i64 v, .int .i64 p] 142) = W := ⟨_, rfl⟩
  rw [hW] at hB hk
  have HX := Lib.hid (hx.below hB)
  have HN := Lib.hid (index_none b X W HX.out)
  have HW := Lib.hid hW
  have HB := Lib.hid hB
  have HK := Lib.hid hk
  have HC : Hid (∀ w', Below W.heap.size W w' → w'.cell? ⟨b, 6, none⟩ = some (.pointer (some ⟨X.bm, 0, none⟩)) ∧ w'.cell? ⟨w.heap.size, 0, none⟩ = some (.int .u64 h) ∧ w'.cell? ⟨w.heap.size, 1, none⟩ = some (.int .i64 v) ∧ w'.cell? ⟨w.heap.size, 2, none⟩ = some (.int .i64 p)) :=
    Lib.hid (fun w' hb' => by
      have h1 := (HX.out.below hb').blk
      have h2 := blk_kept hb' HK.out
      exact ⟨by rw [cell_of_block h1]; rfl, by rw [cell_of_block h2]; rfl, by rw [cell_of_block h2]; rfl, by rw [cell_of_block h2]; rfl⟩)
  have HLT := Lib.hid (blk_lt hx.mem)
  clear hx hs hn he hl hmv hB hk hW
  go_enter Tryz.func84, Tryz.ntmps84
  go_wp2_with fail
  rw [HW.out]
  refine HN.out.mono ?_
  rintro r w1 ⟨rfl, rfl⟩
  obtain ⟨k0, k1, k2, k3⟩ := HC.out W (Below.refl _ _)
  go_wp2_with fail
  refine (HPUT.out W).mono ?_
  rintro r w1 ⟨rfl, hb1⟩
  have HB1 := Lib.hid hb1
  obtain ⟨q0, q1, q2, q3⟩ := HC.out w1 hb1
  obtain ⟨s, hs⟩ : ∃ s, putEn ⟨h, v, p⟩ = s := ⟨_, rfl⟩
  have hne := HNE.out
  rw [hs] at hne ⊢
  have hne2 : s.isEmpty = false := by cases s with | nil => cases hne | cons _ _ => rfl
  clear hb1 hs k0 k1 k2 k3
  go_wp2_with fail
  clear hne hne2
  go_region_held3 (fun w' => w'.cell? ⟨b, 6, none⟩ = some (.pointer (some ⟨X.bm, 0, none⟩)) ∧ w'.cell? ⟨w.heap.size, 0, none⟩ = some (.int .u64 h) ∧ w'.cell? ⟨w.heap.size, 1, none⟩ = some (.int .i64 v) ∧ w'.cell? ⟨w.heap.size, 2, none⟩ = some (.int .i64 p))
    (first | exact ⟨q0, q1, q2, q3⟩ | exact HC.out _ HB1.out.drew | exact hkeep)
    ((go_at_call 123; with_reducible refine (HADD.out _ (HX.out.below HB1.out.drew)).mono ?_; intro r w3 hp
      have hr := hp.1
      subst hr
      obtain ⟨mv, hx3, hnw, hu3⟩ := HEND.out _ _ _ (HX.out.below HB1.out.drew) hp
      have hne3 : w.heap.size ≠ X.bm := by have := HLT.out; omega
      have hkeep : w3.cell? ⟨b, 6, none⟩ = some (.pointer (some ⟨X.bm, 0, none⟩)) ∧ w3.cell? ⟨w.heap.size, 0, none⟩ = some (.int .u64 h) ∧ w3.cell? ⟨w.heap.size, 1, none⟩ = some (.int .i64 v) ∧ w3.cell? ⟨w.heap.size, 2, none⟩ = some (.int .i64 p) := by
        have h1 := hx3.blk
        have h2 := hu3.kept (blk_kept HB1.out.drew HK.out) hne3
        exact ⟨by rw [cell_of_block h1]; rfl, by rw [cell_of_block h2]; rfl, by rw [cell_of_block h2]; rfl, by rw [cell_of_block h2]; rfl⟩
      have HX3 := Lib.hid hx3
      have HU3 := Lib.hid hu3
      have HNW := Lib.hid hnw
      clear hp hx3 hu3 hnw))
  have hs1 := HB.out.size
  have hs2 := HB1.out.size
  have HU := Lib.hid (((Upd.of_below (HB.out.trans ((HB1.out.drew).mono HB.out.size))).trans HU3.out) : Upd (· = X.bm) w w3)
  rename_i hHeld
  clear hHeld q0 q1 q2 q3 hkeep
  go_wp2_with fail
  go_ret
  exact ⟨rfl, mv, HX3.out, fun k hk => by have := HNW.out k hk; have e : w1.drew.heap.size = w1.heap.size := rfl; omega, HU.out⟩
end Go.Proofs.YtamlhndibcafgaaGreatDoor
