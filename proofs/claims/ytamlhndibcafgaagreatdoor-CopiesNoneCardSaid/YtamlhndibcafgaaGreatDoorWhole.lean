/- Contracts of records.Whole and chunks.Scan. -/
import Derived.Test.YtamlhndibcafgaaGreatDoorEach
namespace Go.Proofs.YtamlhndibcafgaaGreatDoor
open Go.RowKit Go.Shelf
attribute [local go_sem] Oper.semAt_some
theorem Tryz.infoInt : (Tryz.prog.info? 3).map (fun i => (i.zero, i.size, i.bytes)) = some (some (.int .i64 0), 1, 8) := by kernel_rfl

def endP (i : Nat) (pre : List (Nat × Nat)) : Nat := (pre.map Prod.snd).getLast?.getD i
theorem endP_snoc (i : Nat) (pre : List (Nat × Nat)) (x : Nat × Nat) : endP i (pre ++ [x]) = x.2 := by simp [endP]
def intV (x : Nat) : Value := .int .i64 x
def placeV (x : Nat × Nat) : Value := .int .i64 x.1
theorem eachR_length (s : List UInt8) : ∀ f i, i ≤ s.length → (eachR s f i).length * 12 + i ≤ s.length := by
  intro f
  induction f with
  | zero => intro i h; simpa [eachR] using h
  | succ f ih =>
    intro i h
    rw [eachR]
    cases hr : getR s i with
    | none => simpa using h
    | some x =>
      obtain ⟨p, j⟩ := x
      have h1 := getR_next hr
      have h2 := ih j h1.2
      simp only [List.length_cons]
      omega
def WholePost (w : World) (ys : List (Nat × Nat)) (i : Nat) (e : Ending) (w' : World) : Prop :=
  ∃ v, e = .returned (.tuple #[v, .int .i64 (endP i ys)]) ∧ w'.ownsRow w.heap.size 3 1 v ys.length (ys.map placeV) ∧ Below w.heap.size w w'

theorem ownsRow_ne_below {W : World} {base : Nat} {e : TypeId} {size : Nat} {v : Value} {k : Nat} {xs : List Value} (h : W.ownsRow base e size v k xs) {B : Nat} (hB : B < base) : some B ≠ v.ownBlock := by
  rcases h.2 with ⟨rfl, _⟩ | ⟨g, cap, cur, rfl, hb, _, _⟩
  · simp [Value.ownBlock]
  · intro e'
    obtain rfl : B = g := by simpa [Value.ownBlock] using e'
    omega
theorem KpB.alloc (b : Nat) (A : World) (o : Obj) : KpB b A (A.alloc o) := ⟨by simp, fun h => Below.heap_alloc A o b h⟩
theorem KpB.grown {b : Nat} {A B : World} {row : Option Nat} (hg : A.grownBy B row) (hne : some b ≠ row) : KpB b A B := ⟨hg.size, fun h => hg.block b h hne⟩
theorem KpB.setCell {b c : Nat} (A : World) (v : Value) (hne : b ≠ c) : KpB b A (A.setCell ⟨c, 0, none⟩ v) := KpB.grown (grownBy_setCell' A c v) (fun e => hne (by cases e; rfl))
set_option maxRecDepth 100000 in
set_option maxHeartbeats 2000000 in
theorem records_Whole (s : List UInt8) (i : Nat) (w : World) (hs : s.length ≤ 1048576) (hi : i ≤ s.length) :
    Calls Tryz.prog 176 #[.string ⟨s.toArray⟩, .int .i64 i] w (WholePost w (eachR s (s.length + 1) i) i) := by
  obtain ⟨i0, hi0, hz0, hz1, hz2⟩ := info_parts Tryz.infoInt
  refine (callsIn_wide (n := 5)).1 ?_
  refine callsIn_of_wp_marks Tryz.func176 rfl trivial ?_ rfl
  simp only [Tryz.ntmps176, List.size_toArray, List.length_cons, List.length_nil, Nat.reduceAdd, Nat.reduceSub, Array.replicate_succ, Array.replicate_zero, List.push_toArray, List.append_toArray, List.nil_append, List.cons_append]
  have bA := Boxed.new w 41 (.slice none 0 0)
  have bE := Boxed.new (w.alloc (.cells #[.slice none 0 0] 41)) 3 (.int .i64 0)
  rw [World.size_alloc] at bE
  have cA := (bA.alloc (.cells #[.int .i64 0] 3)).cell
  have cE := bE.cell
  have fE := bE.frozen
  gi_wp2_with (refine ⟨trivial, ?_⟩; gi_at_call 224; refine (records_each _ s i _).mono ?_; rintro e w' ⟨rfl, rfl⟩)
  clear cA cE fE bE bA
  have bA := Boxed.new w 41 (.slice none 0 0)
  have bE := Boxed.new (w.alloc (.cells #[.slice none 0 0] 41)) 3 (.int .i64 i)
  have bS := Boxed.new ((w.alloc (.cells #[.slice none 0 0] 41)).alloc (.cells #[.int .i64 i] 3)) 9 (.string ⟨s.toArray⟩)
  have bI := Boxed.new (((w.alloc (.cells #[.slice none 0 0] 41)).alloc (.cells #[.int .i64 i] 3)).alloc (.cells #[.string ⟨s.toArray⟩] 9)) 3 (.int .i64 i)
  simp only [World.size_alloc] at bE bS bI
  have hB0 : Below w.heap.size w ((((w.alloc (.cells #[.slice none 0 0] 41)).alloc (.cells #[.int .i64 i] 3)).alloc (.cells #[.string ⟨s.toArray⟩] 9)).alloc (.cells #[.int .i64 i] 3)) :=
    ((((Below.refl _ w).alloc (Nat.le_refl _) _).alloc (by simp) _).alloc (by simp; omega) _).alloc (by simp; omega) _
  obtain ⟨W0, hW0⟩ : ∃ W0, ((((w.alloc (.cells #[.slice none 0 0] 41)).alloc (.cells #[.int .i64 i] 3)).alloc (.cells #[.string ⟨s.toArray⟩] 9)).alloc (.cells #[.int .i64 i] 3)) = W0 := ⟨_, rfl⟩
  have hsz : W0.heap.size = w.heap.size + 4 := by rw [← hW0]; simp
  have bA := ((bA.alloc (.cells #[.int .i64 i] 3)).alloc (.cells #[.string ⟨s.toArray⟩] 9)).alloc (.cells #[.int .i64 i] 3)
  have bE := (bE.alloc (.cells #[.string ⟨s.toArray⟩] 9)).alloc (.cells #[.int .i64 i] 3)
  have bS := bS.alloc (.cells #[.int .i64 i] 3)
  rw [hW0] at hB0 bA bE bS bI ⊢
  refine wpIn_rangeFunc_ownG rfl (by omega) (gf := 268) (lb := #[.pointer (some ⟨w.heap.size + 1 + 1 + 1, 0, none⟩), .pointer (some ⟨w.heap.size + 1 + 1, 0, none⟩)]) rfl trivial (enters_of Tryz.func268 (by kernel_rfl) rfl)
    (each_stops (5 - 1) (by omega) (w.heap.size + 1 + 1) (w.heap.size + 1 + 1 + 1) (s.length + 1) i s _ hs hi (by omega) (by omega) (by omega) bS.cell bI.cell) KpB.trans (KpB.putObj (by omega)) (Below.refl _ _) (fun _ => rfl)
    (fun pre W => ((∃ v, Boxed W w.heap.size 41 v ∧ W.ownsRow (w.heap.size + 4) 3 1 v pre.length (pre.map placeV) ∧ True) ∧ Boxed W (w.heap.size + 1) 3 (.int .i64 (endP i pre))) ∧ Below w.heap.size W0 W)
    (fun _ _ _ => False)
    (OwnFrom.and (OwnFrom.and (Own.from (holdsRow_own (w.heap.size + 4) w.heap.size 41 3 1 (fun pre : List (Nat × Nat) => pre.length) (fun pre => pre.map placeV) (fun _ _ => True)) _) (Own.from (boxed_own (w.heap.size + 1) 3 (fun pre : List (Nat × Nat) => .int .i64 (endP i pre))) _)) (ownFrom_below (by omega) (by omega)))
    (fun _ _ _ _ _ hs _ _ => hs)
    ⟨⟨⟨_, bA, World.ownsRow_nil _ _ _ _, trivial⟩, bE⟩, Below.refl _ _⟩
    (fun x => { tmps := #[.string ⟨s.toArray⟩, .int .i64 i, undef, undef, .pointer (some ⟨w.heap.size, 0, none⟩), .pointer (some ⟨w.heap.size + 1, 0, none⟩), .int .i64 x.1, .int .i64 x.2, .int .i64 i, .bool (decide ((i : Int) < 0)), .bool (decide ((i : Int) < 0)), .int .i64 i, .string ⟨s.toArray⟩, .int .i64 s.length, .bool false, .bool (decide ((i : Int) < 0)), .int .i64 i, .string ⟨s.toArray⟩, .int .i64 i, .func (.func 268) #[] #[.pointer (some ⟨w.heap.size + 1 + 1 + 1, 0, none⟩), .pointer (some ⟨w.heap.size + 1 + 1, 0, none⟩)], .int .i64 x.1, .int .i64 x.2, undef, undef, undef, undef, undef, undef, undef], defers := [] }) ?assign ?body ?done ?stop
  case assign =>
    intro l x W K hK
    dsimp only [encP]
    gi_wp2
    exact hK
  case body =>
    rintro l pre x W ⟨⟨⟨v, hv, hrow, -⟩, he⟩, hB⟩ hlt
    have hc := hv.cell
    have hWs := hB.size
    have hlen := eachR_length s (s.length + 1) i hi
    have hpl : pre.length + 1 ≤ 1048576 := by omega
    clear hlen
    gi_wp2_with (gi_at_builtin; refine wpListIn_append_own _ rfl _ _ 41 rfl (w.heap.size + 4) 3 i0 (.int .i64 0) 1 8 Tryz.underlying41 hi0 hz0 hz1 hz2 rfl (by decide) _ _ _ rfl (hrow.alloc _) ⟨W.heap.size, 0, none⟩ 1 1 [placeV x] rfl rfl (cell_one_new _ _ _) (by simp [placeV, Value.oneCell']) (by unfold maxLen; omega) (by omega) (by simp; omega) ?_; intro v' w1 hown' hgrow _; obtain ⟨g', cap', rfl⟩ := ownsRow_succ hown'; have hrow0 := ownsRow_base hrow (Nat.le_add_right _ 4); have hown0 := ownsRow_base hown' (Nat.le_add_right w.heap.size 4); obtain ⟨hv1, hv2, hr2, hk2, hb2⟩ := hv.appended (by decide) hrow0 (by omega) (Nat.le_refl _) hown0 hgrow; have hc1 := hv1.cell; have hf1 := hv1.frozen; have he1 := (he.alloc (.cells #[placeV x] 3)).kept hgrow (ownsRow_ne_below hrow (by omega)); have he2 := he1.other (B' := w.heap.size) (by omega) (.slice (some ⟨g', 0, none⟩) (pre.length + 1) cap'); have hce := he2.cell; have hfe := he2.frozen)
    refine ⟨(hk2.trans (KeepsOthers.setCell _ _ _)).from _, ?_, ⟨⟨_, hv2.other (by omega) _, ?_, trivial⟩, ?_⟩, hB.trans (hb2.setCell (p := ⟨w.heap.size + 1, 0, none⟩) (by simp) _)⟩
    · exact ((KpB.alloc _ _ _).trans (KpB.grown hgrow (ownsRow_ne_below hrow (by omega)))).trans ((KpB.setCell _ _ (by omega)).trans (KpB.setCell _ _ (by omega)))
    · have h1 := hown'.kept (grownBy_setCell' w1 w.heap.size (.slice (some ⟨g', 0, none⟩) (pre.length + 1) cap')) (.inr (hv1.not_row (by decide) hown').symm)
      have h2 := h1.kept (grownBy_setCell' _ (w.heap.size + 1) (.int .i64 x.2)) (.inr (ownsRow_ne_below h1 (by omega)).symm)
      simpa using h2
    · rw [endP_snoc]; exact he2.set _
  case done =>
    rintro D ys W hD rfl ⟨⟨⟨v, hv, hrow, -⟩, he⟩, hB⟩ hK
    have hc := hv.cell
    have hf := hv.frozen
    have hce := he.cell
    have hfe := he.frozen
    obtain ⟨a, cap, rfl⟩ := ownsRow_slice hrow
    clear bI bA bE bS hi0 hz0 hz1 hz2
    gi_wp2
    gi_region
    generalize eachR s (s.length + 1) i = ys at *
    obtain ⟨sv, hsv⟩ : ∃ sv, Value.slice a ys.length cap = sv := ⟨_, rfl⟩
    rw [hsv] at hv hrow hc ⊢
    obtain ⟨W2, hW2⟩ : ∃ W2, ((W.setCell ⟨w.heap.size, 0, none⟩ sv).setCell ⟨w.heap.size + 1, 0, none⟩ (.int .i64 (endP i ys))).drew = W2 := ⟨_, rfl⟩
    have b1 : Boxed W2 w.heap.size 41 sv := by rw [← hW2]; exact (hv.set sv).other (by omega) _
    have b2 : Boxed W2 (w.heap.size + 1) 3 (.int .i64 (endP i ys)) := by rw [← hW2]; exact (he.other (by omega) _).set _
    have hK' : W2.heap[D]? = some (.deferred (some [])) := by
      rw [← hW2]; exact ((KeepsOthers.setCell _ _ _).trans ((KeepsOthers.setCell _ _ _).trans (KeepsOthers.drew _))).same D _ hK rfl
    have hr1 := hrow.kept (grownBy_setCell' W w.heap.size sv) (.inr (ownsRow_ne_below hrow (by omega)).symm)
    have hr2 := hr1.kept (grownBy_setCell' _ (w.heap.size + 1) (.int .i64 (endP i ys))) (.inr (ownsRow_ne_below hr1 (by omega)).symm)
    have hr3 : W2.ownsRow (w.heap.size + 4) 3 1 sv ys.length (ys.map placeV) := by rw [← hW2]; exact hr2
    have hB2 : Below w.heap.size W0 W2 := by
      rw [← hW2]; exact ((hB.setCell (p := ⟨w.heap.size, 0, none⟩) (Nat.le_refl _) _).setCell (p := ⟨w.heap.size + 1, 0, none⟩) (by simp) _).drew
    rw [hW2]
    clear hr1 hr2 hrow hv he hc hce hf hfe hK
    gi_wp2
    refine ⟨by simp, .inl ⟨_, _, rfl, run_takeDeferred hK', ?_⟩⟩
    have c1 := (b1.kept (grownBy_putObj' W2 D (.deferred none)) (by simp; omega)).cell
    have c2 := (b2.kept (grownBy_putObj' W2 D (.deferred none)) (by simp; omega)).cell
    refine ⟨.tuple #[sv, .int .i64 (endP i ys)], ?_, sv, rfl, ownsRow_putObj (ownsRow_base hr3 (Nat.le_add_right _ 4)) _ hK' rfl, ?_⟩
    · simp [results, Tryz.f176, go_sem, c1, c2]
    · exact hB0.trans (hB2.trans (belowK_b (w := w) (Nat.le_refl _) W2 D _ _ (by omega) hK' rfl rfl))
  case stop =>
    rintro D c pre W _ _ h _
    exact h.elim

theorem headL_ne (n : Nat) : (headL n == []) = false := by
  rw [beq_eq_false_iff_ne]; intro e; have := congrArg List.length e; simp at this
/-- What Scan answers: where records stand, where they end, whether it is a chunk's. -/
def ScanPost (w : World) (ys : List (Nat × Nat)) (last : Nat) (ok : Bool) (e : Ending) (w' : World) : Prop :=
  ∃ v, e = .returned (.tuple #[v, .int .i64 last, .bool ok]) ∧ w'.ownsRow w.heap.size 3 1 v ys.length (ys.map placeV) ∧ Below w.heap.size w w'
set_option maxRecDepth 100000 in
set_option maxHeartbeats 1000000 in
theorem chunks_Scan (s : List UInt8) (n : Nat) (w : World) (hs : s.length ≤ 1048576) (hn : n < 200) (h : prefB s (headL n) = true) :
    Calls Tryz.prog 132 #[.string ⟨s.toArray⟩, .int .i64 n] w (ScanPost w (eachR s (s.length + 1) 12) (endP 12 (eachR s (s.length + 1) 12)) true) := by
  have hl := prefB_len h
  rw [headL_length] at hl
  have H := Lib.hid h
  have HN := Lib.hid (headL_ne n)
  have HL := Lib.hid (headL_length n)
  clear h
  go_enter Tryz.func132, Tryz.ntmps132
  go_wp2_with fail
  refine (chunks_Head n _ hn).mono ?_
  rintro e w1 ⟨rfl, hb1⟩
  generalize headL n = hd at *
  have hn2 := HN.out
  go_wp2_with fail
  refine (strings_HasPrefix _ _ _ (by unfold maxLen; omega) (by rw [HL.out]; unfold maxLen; omega)).mono ?_
  rintro e w2 ⟨rfl, rfl⟩
  rw [H.out]
  go_wp2_with fail
  rw [HL.out]
  refine (records_Whole s 12 _ hs hl).mono ?_
  rintro e w2 ⟨v, rfl, hown, hb2⟩
  obtain ⟨a, cap, rfl⟩ := ownsRow_slice hown
  go_wp2_with fail
  go_ret3
  exact ⟨_, rfl, ownsRow_base hown hb1.size, hb1.trans (hb2.mono hb1.size)⟩
set_option maxRecDepth 100000 in
set_option maxHeartbeats 1000000 in
theorem chunks_Scan_none (s : List UInt8) (n : Nat) (w : World) (hs : s.length ≤ 1048576) (hn : n < 200) (h : prefB s (headL n) = false) :
    Calls Tryz.prog 132 #[.string ⟨s.toArray⟩, .int .i64 n] w (ScanPost w [] 0 (prefB (headL n) s)) := by
  obtain ⟨q, hq⟩ : ∃ q, prefB (headL n) s = q := ⟨_, rfl⟩
  rw [hq]
  have H := Lib.hid h
  have HQ := Lib.hid hq
  have HN := Lib.hid (headL_ne n)
  have HL := Lib.hid (headL_length n)
  clear h hq
  go_enter Tryz.func132, Tryz.ntmps132
  go_wp2_with fail
  refine (chunks_Head n _ hn).mono ?_
  rintro e w1 ⟨rfl, hb1⟩
  generalize headL n = hd at *
  have hn2 := HN.out
  go_wp2_with fail
  refine (strings_HasPrefix _ _ _ (by unfold maxLen; omega) (by rw [HL.out]; unfold maxLen; omega)).mono ?_
  rintro e w2 ⟨rfl, rfl⟩
  rw [H.out]
  go_wp2_with fail
  refine (strings_HasPrefix _ _ _ (by rw [HL.out]; unfold maxLen; omega) (by unfold maxLen; omega)).mono ?_
  rintro e w2 ⟨rfl, rfl⟩
  rw [HQ.out]
  clear HQ
  cases q
  all_goals
    go_wp2_with fail
    go_ret3
    exact ⟨_, rfl, World.ownsRow_nil _ _ _ _, hb1⟩
end Go.Proofs.YtamlhndibcafgaaGreatDoor
