/- Contracts of records.each (an iterator), Whole, and of chunks.Scan. -/
import Derived.Test.YtamlhndibcafgaaGreatDoorChunks
import Derived.RangeFuncNested
import Derived.RangeFuncBound
import Derived.RangeFuncCalls
import Derived.RangeFuncLeaves
import Derived.RangeFuncBox
import Derived.Maps.AppendAt
import Derived.Shelf.Abstract
import Derived.Shelf.RegionOpen
import Derived.OwnWalkIn
import Derived.TacticsInMore
import Derived.LoopNIn
import Derived.LoopIn
namespace Go.Proofs.YtamlhndibcafgaaGreatDoor
open Go.RowKit Go.Shelf
attribute [local go_sem] Oper.semAt_some

/-- The records from a place on: where each stands, where it ends. -/
def eachR (s : List UInt8) : Nat → Nat → List (Nat × Nat)
  | 0, _ => []
  | f + 1, i => match getR s i with
    | none => []
    | some (_, j) => (i, j) :: eachR s f j
theorem eachR_whole (s : List UInt8) : ∀ f i, ((eachR s f i).map Prod.fst, ((eachR s f i).map Prod.snd).getLast?.getD i) = wholeR s f i := by
  intro f
  induction f with
  | zero => intro i; rfl
  | succ f ih =>
    intro i
    rw [eachR, wholeR]
    cases h : getR s i with
    | none => rfl
    | some x =>
      obtain ⟨p, j⟩ := x
      simp only
      rw [← ih j]
      cases he : eachR s f j with
      | nil => rfl
      | cons a l => simp [List.getLast?_cons]

theorem abides_below {β : Type} {B : Nat} {J : β → World → Prop} (h : AbidesFrom B J) {s : β} {W W' : World} (hs : J s W) (hb : Below W.heap.size W W') : J s W' :=
  h s W W' none hs ⟨hb.os, hb.tape, hb.output, hb.size, fun k hk _ => hb.block k hk⟩ (fun r e => by cases e)
theorem getRPost_none {w w' : World} {e : Ending} {r : Option (List UInt8 × Nat)} (h : GetRPost w r e w') (hr : r = none) : e = .returned (.tuple #[.string ⟨#[]⟩, .int .i64 0, .bool false]) ∧ Below w.heap.size w w' := by subst hr; exact h
theorem getRPost_some {w w' : World} {e : Ending} {r : Option (List UInt8 × Nat)} {p : List UInt8} {j : Nat} (h : GetRPost w r e w') (hr : r = some (p, j)) : e = .returned (.tuple #[.string ⟨p.toArray⟩, .int .i64 j, .bool true]) ∧ Below w.heap.size w w' := by subst hr; exact h

/-- What an iterator's round keeps: one block. -/
def KpB (b : Nat) (A B : World) : Prop := A.heap.size ≤ B.heap.size ∧ (b < A.heap.size → B.heap[b]? = A.heap[b]?)
theorem KpB.refl (b : Nat) (A : World) : KpB b A A := ⟨Nat.le_refl _, fun _ => rfl⟩
theorem KpB.trans {b : Nat} {A B C : World} (h : KpB b A B) (k : KpB b B C) : KpB b A C := ⟨Nat.le_trans h.1 k.1, fun hb => (k.2 (Nat.lt_of_lt_of_le hb h.1)).trans (h.2 hb)⟩
theorem KpB.of_below {b n : Nat} {A B : World} (h : Below n A B) (hn : b < A.heap.size → b < n) : KpB b A B := ⟨h.size, fun hb => h.block b (hn hb)⟩
theorem KpB.putObj {b m : Nat} (hb : b < m) (W : World) (l : Nat) (o o' : Obj) (hl : m ≤ l) (_ : W.heap[l]? = some o) (_ : o.isCells = false) (_ : o.isWalk = false) : KpB b W (W.putObj l o') :=
  ⟨by simp, fun h => World.putObj_heap_other (by omega)⟩
theorem KpB.cell {b i : Nat} {A B : World} {v : Value} (h : KpB b A B) (hc : A.cell? ⟨b, i, none⟩ = some v) : B.cell? ⟨b, i, none⟩ = some v := by
  have hb : b < A.heap.size := by
    by_cases hb : b < A.heap.size
    · exact hb
    · rw [World.cell?, Array.getElem?_eq_none (show A.heap.size ≤ b by omega)] at hc; cases hc
  rw [World.cell?_of_block (a := ⟨b, i, none⟩) (h.2 hb), hc]
def encP (x : Nat × Nat) : Array Value := #[.int .i64 x.1, .int .i64 x.2]
set_option maxRecDepth 100000 in
set_option maxHeartbeats 2000000 in
theorem each1 (n : Nat) (hn : 1 ≤ n) (l Bs Bi f i : Nat) (s : List UInt8) (hs : s.length ≤ 1048576) (hi : i ≤ s.length) (hf : s.length < f + i) (J Jx : List (Nat × Nat) → World → Prop) (W : World)
    (hJa : AbidesFrom W.heap.size J)
    (hY : ∀ pre x W, J pre W → pre.length < (eachR s f i).length → YieldAt Fence.wide (n - 1) Tryz.prog l (encP x) W fun e W' =>
      (e = .returned (.bool true) ∧ J (pre ++ [x]) W' ∧ KpB Bs W W') ∨ (e = .returned (.bool false) ∧ Jx (pre ++ [x]) W'))
    (hcs : W.cell? ⟨Bs, 0, none⟩ = some (.string ⟨s.toArray⟩)) (hci : W.cell? ⟨Bi, 0, none⟩ = some (.int .i64 i)) (h0 : J [] W) :
    CallsIn Fence.wide n Tryz.prog 268 #[.func (.yield l) #[] #[], .pointer (some ⟨Bi, 0, none⟩), .pointer (some ⟨Bs, 0, none⟩)] W fun e W' => (∃ v, e = .returned v) ∧
      ((∃ ys, ys = eachR s f i ∧ J ys W') ∨ (∃ pre, True ∧ Jx pre W')) := by
  refine callsIn_of_wp Tryz.func268 rfl trivial ?_ rfl
  simp only [Tryz.ntmps268, List.size_toArray, List.length_cons, List.length_nil, Nat.reduceAdd, Nat.reduceSub, Array.replicate_succ, Array.replicate_zero, List.push_toArray, List.append_toArray, List.nil_append, List.cons_append]
  gi_wp2
  gi_loopw [4] (fun p wr => ∃ (pre : List (Nat × Nat)) (j g : Nat), p = .int .i64 j ∧ pre ++ eachR s g j = eachR s f i ∧ j ≤ s.length ∧ s.length < g + j ∧ J pre wr ∧ KpB Bs W wr)
    (fun p _ => s.length + 1 - (intOf p).toNat)
  case atStart => exact ⟨[], i, f, rfl, rfl, hi, hf, h0, KpB.refl _ _⟩
  case round =>
    obtain ⟨pre, j, g, rfl, he, hj, hg, hJs, hb⟩ := hrel
    have hcx := hb.cell hcs
    have HE := Lib.hid he
    clear he
    cases hr : getR s j with
    | none =>
      have HR := Lib.hid hr
      clear hr
      gi_wp2_with (refine ⟨trivial, ?_⟩; gi_at_call 133; refine (CallsIn.inRound l (callsIn_wide.2 (records_Get s j _ (by omega) (by omega)))).mono ?_; intro e w' h; obtain ⟨rfl, hb2⟩ := getRPost_none h HR.out; clear h)
      refine ⟨fun _ h => (by cases h), ?_⟩
      gi_wp2
      refine bodyPost_ret (results_none rfl _ _ _) rfl ?_
      refine ⟨⟨_, rfl⟩, .inl ⟨pre, ?_, abides_below hJa hJs hb2⟩⟩
      have HE2 := HE.out
      obtain ⟨g, rfl⟩ : ∃ k, g = k + 1 := ⟨g - 1, by omega⟩
      rw [eachR, HR.out] at HE2
      simpa using HE2
    | some x =>
      obtain ⟨p, j'⟩ := x
      have hnx := getR_next hr
      have HR := Lib.hid hr
      clear hr
      obtain ⟨g, rfl⟩ : ∃ k, g = k + 1 := ⟨g - 1, by omega⟩
      have HE2 := Lib.hid (show pre ++ [(j, j')] ++ eachR s g j' = eachR s f i by
        have := HE.out
        rw [eachR, HR.out] at this
        simpa using this)
      have HN : pre.length < (eachR s f i).length := by rw [← HE2.out]; simp
      have HNh := Lib.hid HN
      clear HN
      gi_wp2_with (refine ⟨trivial, ?_⟩; gi_at_call 133; refine (CallsIn.inRound l (callsIn_wide.2 (records_Get s j _ (by omega) (by omega)))).mono ?_; intro e w' h; obtain ⟨rfl, hb2⟩ := getRPost_some h HR.out; clear h; obtain ⟨fn, tmps, assign, body, hy, hR⟩ := hY pre (j, j') w' (abides_below hJa hJs hb2) HNh.out; dsimp only [encP] at hy)
      refine hR.mono ?_
      rintro e W3 (⟨rfl, hJ3, hk3⟩ | ⟨rfl, hJx3⟩)
      · gi_wp2
        go_roundw
        case rel => exact ⟨pre ++ [(j, j')], j', g, rfl, HE2.out, by omega, by omega, hJ3, hb.trans ((KpB.of_below hb2 id).trans hk3)⟩
        case measure => simp [intOf]; omega
      · gi_wp2
        refine bodyPost_ret (results_none rfl _ _ _) rfl ?_
        exact ⟨⟨_, rfl⟩, .inr ⟨_, trivial, hJx3⟩⟩

set_option maxHeartbeats 1000000 in
theorem records_each (n : Nat) (s : List UInt8) (i : Nat) (w : World) :
    CallsIn Fence.wide n Tryz.prog 224 #[.string ⟨s.toArray⟩, .int .i64 i] w fun e w' =>
      e = .returned (.func (.func 268) #[] #[.pointer (some ⟨w.heap.size + 1, 0, none⟩), .pointer (some ⟨w.heap.size, 0, none⟩)]) ∧
      w' = (w.alloc (.cells #[.string ⟨s.toArray⟩] 9)).alloc (.cells #[.int .i64 i] 3) := by
  refine callsIn_of_wp Tryz.func224 rfl trivial ?_ rfl
  simp only [Tryz.ntmps224, List.size_toArray, List.length_cons, List.length_nil, Nat.reduceAdd, Nat.reduceSub, Array.replicate_succ, Array.replicate_zero, List.push_toArray, List.append_toArray, List.nil_append, List.cons_append]
  gi_wp2
  go_ret
  exact ⟨rfl, rfl⟩

theorem each_stops (n : Nat) (hn : 1 ≤ n) (Bs Bi f i : Nat) (s : List UInt8) (w : World) (hs : s.length ≤ 1048576) (hi : i ≤ s.length) (hf : s.length < f + i) (hBs : Bs < w.heap.size) (hBi : Bi < w.heap.size)
    (hcs : w.cell? ⟨Bs, 0, none⟩ = some (.string ⟨s.toArray⟩)) (hci : w.cell? ⟨Bi, 0, none⟩ = some (.int .i64 i)) :
    SeqStopsK Fence.wide n Tryz.prog 268 #[.pointer (some ⟨Bi, 0, none⟩), .pointer (some ⟨Bs, 0, none⟩)] encP (KpB Bs) (fun ys => ys = eachR s f i) (fun _ => True) (eachR s f i).length w :=
  fun l J Jx W hW hJa _ hY h0 =>
    each1 n hn l Bs Bi f i s hs hi hf J Jx W hJa hY ((hW.cell (p := ⟨Bs, 0, none⟩) hBs).trans hcs) ((hW.cell (p := ⟨Bi, 0, none⟩) hBi).trans hci) h0
end Go.Proofs.YtamlhndibcafgaaGreatDoor
