/- Contracts of package tflog: what a log is in memory; End, room, note, ready, sync. -/
import Derived.Test.YtamlhndibcafgaaGreatDoorDisk5
import Derived.Test.YtamlhndibcafgaaGreatDoorWhole
namespace Go.Proofs.YtamlhndibcafgaaGreatDoor
open Go.RowKit Go.MapKept

structure Lg where
  bd : Nat
  starts : Nat
  dead : Bool
  sv : Value
  sizes : List Nat
  sure : Nat
def Lg.cells (L : Lg) : Array Value := #[.pointer (some ⟨L.bd, 0, none⟩), .int .i64 L.starts, .bool L.dead, L.sv, .int .i64 L.sure]
def Lg.has (b : Nat) (L : Lg) (k : Nat) : Prop := k = b ∨ L.sv.ownBlock = some k
/-- The blocks of a log on a disk. -/
structure LogOn (w : World) (b : Nat) (L : Lg) (D : Dk) : Prop where
  blk : w.heap[b]? = some (.cells L.cells 177)
  row : w.ownsRow 0 3 1 L.sv L.sizes.length (L.sizes.map intV)
  disk : DiskAt w L.bd D
  apart : ∀ k, L.has b k → ¬ D.has L.bd k
  self : L.sv.ownBlock ≠ some b
  small : L.sizes.length ≤ 200 ∧ L.starts ≤ 1000000000000 ∧ L.sure ≤ 1000000000000
  each : ∀ x ∈ L.sizes, x ≤ 1048576
theorem ownsRow_upd {S : Nat → Prop} {w w' : World} {base : Nat} {e : TypeId} {size : Nat} {v : Value} {n : Nat} {xs : List Value} (h : w.ownsRow base e size v n xs) (hu : Upd S w w') (hn : ∀ k, v.ownBlock = some k → ¬ S k) : w'.ownsRow base e size v n xs := by
  obtain ⟨h1, h2⟩ := h
  refine ⟨h1, ?_⟩
  rcases h2 with h2 | ⟨g, cap, cur, rfl, hg, hh, r⟩
  · exact .inl h2
  · exact .inr ⟨g, cap, cur, rfl, hg, hu.kept hh (hn g rfl), r⟩
theorem ownsRow_lt {w : World} {base : Nat} {e : TypeId} {size : Nat} {v : Value} {n : Nat} {xs : List Value} (h : w.ownsRow base e size v n xs) {k : Nat} (hk : v.ownBlock = some k) : k < w.heap.size := by
  rcases h.2 with ⟨rfl, -⟩ | ⟨g, cap, cur, rfl, hg, hh, r⟩
  · cases hk
  · simp only [Value.ownBlock, Option.some.injEq] at hk
    subst hk; exact blk_lt hh
theorem LogOn.has_lt {w : World} {b : Nat} {L : Lg} {D : Dk} (h : LogOn w b L D) {k : Nat} (hk : L.has b k) : k < w.heap.size := by
  rcases hk with rfl | hk
  · exact blk_lt h.blk
  · exact ownsRow_lt h.row hk
/-- Nobody touched log or disk. -/
theorem LogOn.kept {S : Nat → Prop} {w w' : World} {b : Nat} {L : Lg} {D : Dk} (h : LogOn w b L D) (hu : Upd S w w') (hn : ∀ k, L.has b k ∨ D.has L.bd k → ¬ S k) : LogOn w' b L D where
  blk := hu.kept h.blk (hn _ (.inl (.inl rfl)))
  row := ownsRow_upd h.row hu (fun _ hk => hn _ (.inl (.inr hk)))
  disk := h.disk.kept hu (fun _ hk => hn _ (.inr hk))
  apart := h.apart
  self := h.self
  small := h.small
  each := h.each
theorem LogOn.below {w w' : World} {b : Nat} {L : Lg} {D : Dk} (h : LogOn w b L D) (hu : Below w.heap.size w w') : LogOn w' b L D :=
  h.kept (S := fun _ => False) (Upd.of_below hu) (fun _ _ h => h)
/-- The disk alone turned. -/
theorem LogOn.turn {S : Nat → Prop} {w w' : World} {b : Nat} {L : Lg} {D D' : Dk} (h : LogOn w b L D) (hu : Upd S w w') (hS : ∀ k, S k → D.has L.bd k) (hd : DiskAt w' L.bd D') (hh : ∀ k, D'.has L.bd k → D.has L.bd k ∨ w.heap.size ≤ k) : LogOn w' b L D' where
  blk := hu.kept h.blk (fun hk => h.apart _ (.inl rfl) (hS _ hk))
  row := ownsRow_upd h.row hu (fun k hk hs => h.apart _ (.inr hk) (hS _ hs))
  disk := hd
  apart := fun k hk hk' => by
    rcases hh k hk' with e | e
    · exact h.apart k hk e
    · have := h.has_lt hk; omega
  self := h.self
  small := h.small
  each := h.each
/-- Log and disk as one: what a step may touch. -/
def Both (b : Nat) (L : Lg) (D : Dk) (k : Nat) : Prop := L.has b k ∨ D.has L.bd k
def endL (l : List Nat) : Nat := match l.getLast? with
  | none => 0
  | some x => (l.length - 1) * 4096 + x
theorem endL_le {l : List Nat} (h : l.length ≤ 200) (h2 : ∀ x ∈ l, x ≤ 1048576) : endL l ≤ 2000000 := by
  unfold endL
  cases hl : l.getLast? with
  | none => simp
  | some x =>
    have := h2 x (List.mem_of_getLast? hl)
    simp only
    omega
theorem sizes_cell {w : World} {base : Nat} {v : Value} {l : List Nat} (h : w.ownsRow base 3 1 v l.length (l.map intV)) (i : Nat) (hi : i < l.length) :
    ∃ g cap, v = .slice (some ⟨g, 0, none⟩) l.length cap ∧ w.cell? ⟨g, i, none⟩ = some (intV l[i]) := by
  rcases h.2 with ⟨rfl, h0⟩ | ⟨g, cap, cur, rfl, hg, hh, r⟩
  · omega
  · refine ⟨g, cap, rfl, ?_⟩
    have := h.cellAt i (by omega)
    rw [this]
    simp [hi]
set_option maxRecDepth 100000 in
set_option maxHeartbeats 400000 in
theorem tflog_End (b : Nat) (L : Lg) (D : Dk) (w : World) (h : LogOn w b L D) :
    Calls Tryz.prog 153 #[.pointer (some ⟨b, 0, none⟩)] w fun e w' => e = .returned (.int .i64 (endL L.sizes)) ∧ w = w' := by
  obtain ⟨a, cap, hsv⟩ := ownsRow_slice h.row
  have c3 : w.cell? ⟨b, 3, none⟩ = some L.sv := by rw [cell_of_block h.blk]; rfl
  have hsm := h.small.1
  by_cases hz : L.sizes.length = 0
  · rw [hz] at hsv
    rw [hsv] at c3
    have HE := Lib.hid (show endL L.sizes = 0 by rw [List.eq_nil_of_length_eq_zero hz]; rfl)
    clear h hsv
    go_enter Tryz.func153, Tryz.ntmps153
    go_wp2_with fail
    go_ret
    exact ⟨ret_int (by rw [HE.out]; rfl), rfl⟩
  · obtain ⟨g, cap, hv, hc⟩ := sizes_cell h.row (L.sizes.length - 1) (by omega)
    rw [hv] at c3
    have hbound := h.each _ (List.getElem_mem (l := L.sizes) (n := L.sizes.length - 1) (by omega))
    have HE := Lib.hid (show endL L.sizes = (L.sizes.length - 1) * 4096 + L.sizes[L.sizes.length - 1] by
      unfold endL; rw [List.getLast?_eq_getElem?, List.getElem?_eq_getElem (by omega)])
    generalize L.sizes[L.sizes.length - 1] = x at *
    unfold intV at hc
    generalize L.sizes.length = n at *
    clear h hsv hv
    obtain ⟨m, rfl⟩ : ∃ m, n = m + 1 := ⟨n - 1, by omega⟩
    simp only [Nat.add_sub_cancel] at hc HE
    go_enter Tryz.func153, Tryz.ntmps153
    go_wp2_with fail
    go_ret
    exact ⟨ret_int (by rw [HE.out]; simp), rfl⟩
end Go.Proofs.YtamlhndibcafgaaGreatDoor
