/- Maps whose keys are strings or whole numbers, as lists of key, value and stamp, in the order in which they lie: what a look-up, an update and a delete come to. Of any program. -/
import Derived.WalkKit
import Derived.MapKept
import Derived.ChangeMaps4
namespace Go.Proofs.YtamlhndibcafgaaGreatDoor
open Go.RowKit Go.MapKept
open Go.ChangeMaps (setBlock)

/-- How keys of a kind lie in memory. -/
structure Keys (κ : Type) [DecidableEq κ] where
  desc : TypeDesc
  enc : κ → Value
  isKey : ∀ a, IsKey desc (enc a)
  inj : ∀ a b, enc a = enc b → a = b
theorem Keys.same {κ : Type} [DecidableEq κ] (K : Keys κ) (a b : κ) : Instr.sameNow K.desc (K.enc a) (K.enc b) = some (decide (a = b)) := by
  obtain ⟨r, hr, h⟩ := sameNow_of_keys (K.isKey a) (K.isKey b)
  rw [hr]
  congr 1
  rw [Bool.eq_iff_iff, h, decide_eq_true_iff]
  exact ⟨K.inj a b, fun e => by rw [e]⟩
def strKeys : Keys (List UInt8) where
  desc := .string
  enc := fun l => .string ⟨l.toArray⟩
  isKey := fun _ => trivial
  inj := fun a b e => by simpa using e
def intKeys : Keys Int where
  desc := .int .i64
  enc := fun n => .int .i64 n
  isKey := fun _ => rfl
  inj := fun a b e => by simpa using e

structure Ent (κ : Type) where
  key : κ
  val : Value
  born : Nat
variable {κ : Type} [DecidableEq κ]
def Keys.ents (K : Keys κ) (l : List (Ent κ)) : Array MapEntry := (l.map fun p => (⟨K.enc p.key, p.val, p.born⟩ : MapEntry)).toArray
/-- What stands under a key. -/
def aget : List (Ent κ) → κ → Option Value
  | [], _ => none
  | p :: l, k => if k = p.key then some p.val else aget l k
def aset : List (Ent κ) → κ → Value → Nat → List (Ent κ)
  | [], k, v, c => [⟨k, v, c⟩]
  | p :: l, k, v, c => if k = p.key then ⟨k, v, p.born⟩ :: l else p :: aset l k v c
def aclock (l : List (Ent κ)) (k : κ) (c : Nat) : Nat := if (aget l k).isSome then c else c + 1
def adel : List (Ent κ) → κ → List (Ent κ)
  | [], _ => []
  | p :: l, k => if k = p.key then l else p :: adel l k
def fidx : List (Ent κ) → κ → Nat → Option (Nat × Value)
  | [], _, _ => none
  | p :: l, k, i => if k = p.key then some (i, p.val) else fidx l k (i + 1)

theorem findNow_ents (K : Keys κ) (k : κ) (l : List (Ent κ)) : ∀ i, Instr.findNow K.desc (K.enc k) (K.ents l).toList i = some (fidx l k i) := by
  unfold Keys.ents
  induction l with
  | nil => intro i; rfl
  | cons p l ih =>
    intro i
    simp only [List.map_cons] at ih ⊢
    unfold Instr.findNow
    rw [K.same]
    by_cases h : k = p.key
    · simp [h, fidx]
    · simp only [h, decide_false, fidx, if_false]
      exact ih (i + 1)
theorem fidx_get (k : κ) (l : List (Ent κ)) : ∀ i, (fidx l k i).map (·.2) = aget l k := by
  induction l with
  | nil => intro i; rfl
  | cons p l ih => intro i; unfold fidx aget; split; rfl; exact ih _
variable {P : Program} {w : World} {t kt et : TypeId}
theorem run_findKey_ents (K : Keys κ) (hk : P.underlying kt = some K.desc) (k : κ) (l : List (Ent κ)) :
    (Instr.findKey kt (K.enc k) (K.ents l).toList).run P w = .ok (fidx l k 0) w :=
  run_findKey hk (findNow_ents K k l 0)

theorem run_lookup_some (K : Keys κ) (ht : P.underlying t = some (.map kt et)) (hk : P.underlying kt = some K.desc)
    {b clock : Nat} {l : List (Ent κ)} (hb : w.heap[b]? = some (.map (K.ents l) clock)) {k : κ} {v : Value} (h : aget l k = some v) :
    (Instr.lookup t (.map (some b)) (K.enc k) false).run P w = .ok v w ∧ (Instr.lookup t (.map (some b)) (K.enc k) true).run P w = .ok (.tuple #[v, .bool true]) w := by
  have hf := run_findKey_ents (P := P) (w := w) K hk k l
  have hc := fun e => run_checkKey (P := P) (w := w) hk (K.isKey k) e 9999
  rw [← fidx_get k l 0] at h
  cases hx : fidx l k 0 with
  | none => rw [hx] at h; cases h
  | some p =>
    rw [hx] at h hf
    obtain ⟨i, u⟩ := p
    simp only [Option.map_some, Option.some.injEq] at h
    subst h
    constructor <;> simp [Instr.lookup, run_underlying ht, MapKept.run_getObj_map hb, hc, hf, Result.andThen]
theorem run_lookup_none (K : Keys κ) (ht : P.underlying t = some (.map kt et)) (hk : P.underlying kt = some K.desc) {z : Value} (hz : (zeroValue et).run P w = .ok z w)
    {b clock : Nat} {l : List (Ent κ)} (hb : w.heap[b]? = some (.map (K.ents l) clock)) {k : κ} (h : aget l k = none) :
    (Instr.lookup t (.map (some b)) (K.enc k) false).run P w = .ok z w ∧ (Instr.lookup t (.map (some b)) (K.enc k) true).run P w = .ok (.tuple #[z, .bool false]) w := by
  have hf := run_findKey_ents (P := P) (w := w) K hk k l
  have hc := fun e => run_checkKey (P := P) (w := w) hk (K.isKey k) e 9999
  rw [← fidx_get k l 0] at h
  cases hx : fidx l k 0 with
  | none =>
    rw [hx] at hf
    constructor <;> simp [Instr.lookup, run_underlying ht, MapKept.run_getObj_map hb, hc, hf, hz, Result.andThen]
  | some p => rw [hx] at h; cases h

theorem fidx_none (k : κ) (l : List (Ent κ)) : ∀ i, fidx l k i = none → aget l k = none ∧ ∀ v c, aset l k v c = l ++ [⟨k, v, c⟩] := by
  induction l with
  | nil => intro i _; exact ⟨rfl, fun _ _ => rfl⟩
  | cons p l ih =>
    intro i h
    unfold fidx at h
    split at h
    · cases h
    · rename_i hn
      obtain ⟨h1, h2⟩ := ih _ h
      unfold aget aset
      refine ⟨by rw [if_neg hn]; exact h1, fun v c => by rw [if_neg hn, h2]; rfl⟩
theorem fidx_some (K : Keys κ) (k : κ) (l : List (Ent κ)) : ∀ i j u, fidx l k i = some (j, u) → i ≤ j ∧ aget l k = some u ∧ (K.ents l)[j - i]?.map (·.key) = some (K.enc k) ∧
    ∀ v c, K.ents (aset l k v c) = (K.ents l).modify (j - i) (fun e => { e with key := K.enc k, val := v }) := by
  induction l with
  | nil => intro i j u h; cases h
  | cons p l ih =>
    intro i j u h
    unfold fidx at h
    split at h
    · rename_i hk
      simp only [Option.some.injEq, Prod.mk.injEq] at h
      obtain ⟨rfl, rfl⟩ := h
      refine ⟨Nat.le_refl _, by simp [aget, hk], by simp [Keys.ents, hk], fun v c => ?_⟩
      simp [aset, hk, Keys.ents]
    · rename_i hn
      obtain ⟨h0, h1, h2, h3⟩ := ih _ _ _ h
      have e : j - i = (j - (i + 1)) + 1 := by omega
      refine ⟨by omega, by simp [aget, hn, h1], ?_, fun v c => ?_⟩
      · rw [e]; simpa [Keys.ents] using h2
      · have := h3 v c
        rw [e]
        unfold aset
        rw [if_neg hn]
        unfold Keys.ents at this ⊢
        apply Array.ext'
        have h4 := congrArg Array.toList this
        simp only [List.map_cons, Array.toList_modify, List.modify_succ_cons] at h4 ⊢
        rw [h4]

theorem run_mapUpdate (K : Keys κ) (ht : P.underlying t = some (.map kt et)) (hk : P.underlying kt = some K.desc)
    {b clock : Nat} {l : List (Ent κ)} (hb : w.heap[b]? = some (.map (K.ents l) clock)) (k : κ) (v : Value) :
    (Instr.mapUpdate t (.map (some b)) (K.enc k) v).run P w = .ok () (setBlock w b (.map (K.ents (aset l k v clock)) (aclock l k clock))) := by
  have hf := run_findKey_ents (P := P) (w := w) K hk k l
  have hc := fun e => run_checkKey (P := P) (w := w) hk (K.isKey k) e 9999
  cases hx : fidx l k 0 with
  | none =>
    rw [hx] at hf
    obtain ⟨h1, h2⟩ := fidx_none k l 0 hx
    have e : K.ents (aset l k v clock) = (K.ents l).push ⟨K.enc k, v, clock⟩ := by rw [h2]; simp [Keys.ents]
    simp [Instr.mapUpdate, run_underlying ht, MapKept.run_getObj_map hb, hc, hf, MapKept.run_setObj_map _ hb, Result.andThen, setBlock, e, aclock, h1]
  | some p =>
    obtain ⟨j, u⟩ := p
    rw [hx] at hf
    obtain ⟨-, h1, h2, h3⟩ := fidx_some K k l 0 j u hx
    rw [Nat.sub_zero] at h2 h3
    have e := h3 v clock
    have hst : (Instr.keyThatStays (((K.ents l)[j]?.map (·.key)).getD (K.enc k)) (K.enc k)).run P w = .ok (K.enc k) w := by
      rw [h2]
      exact run_keyThatStays (K.isKey k)
    simp [Instr.mapUpdate, run_underlying ht, MapKept.run_getObj_map hb, hc, hf, hst, MapKept.run_setObj_map _ hb, Result.andThen, setBlock, e, aclock, h1]

theorem run_lookup_getD (K : Keys κ) (ht : P.underlying t = some (.map kt et)) (hk : P.underlying kt = some K.desc) {z : Value} (hz : (zeroValue et).run P w = .ok z w)
    {b clock : Nat} {l : List (Ent κ)} (hb : w.heap[b]? = some (.map (K.ents l) clock)) (k : κ) :
    (Instr.lookup t (.map (some b)) (K.enc k) false).run P w = .ok ((aget l k).getD z) w := by
  cases h : aget l k with
  | none => exact (run_lookup_none K ht hk hz hb h).1
  | some v => exact (run_lookup_some K ht hk hb h).1
theorem aget_aset (l : List (Ent κ)) (k : κ) (v : Value) (c : Nat) (j : κ) : aget (aset l k v c) j = if j = k then some v else aget l j := by
  induction l with
  | nil => rfl
  | cons p l ih =>
    unfold aset
    by_cases h : k = p.key
    · rw [if_pos h]
      unfold aget
      by_cases hj : j = k
      · simp [hj]
      · have : ¬ j = p.key := fun e => hj (e.trans h.symm)
        simp [hj, this]
    · rw [if_neg h]
      unfold aget
      by_cases hj : j = p.key
      · simp [hj]
        intro e; exact absurd e.symm h
      · simp only [hj, if_false]
        exact ih
/-- A block turned: that block, and the others. -/
theorem setBlock_at {w : World} {b : Nat} {o o' : Obj} (h : w.heap[b]? = some o) : (setBlock w b o').heap[b]? = some o' := (heap_set h).1
theorem setBlock_other {w : World} {b j : Nat} {o o' : Obj} (h : w.heap[b]? = some o) (hj : j ≠ b) : (setBlock w b o').heap[j]? = w.heap[j]? := (heap_set h).2 j hj
theorem setBlock_size (w : World) (b : Nat) (o' : Obj) : (setBlock w b o').heap.size = w.heap.size := by simp [setBlock]
theorem setBlock_below {w w1 : World} {B b : Nat} {o o' : Obj} (hb : Below B w w1) (h : w1.heap[b]? = some o) (hB : B ≤ b) : Below B w (setBlock w1 b o') :=
  hb.trans ⟨rfl, rfl, rfl, by rw [setBlock_size]; exact Nat.le_refl _, fun k hk => setBlock_other h (by omega)⟩
theorem setBlock_ownsRow {w : World} {base : Nat} {e : TypeId} {size : Nat} {v : Value} {n : Nat} {xs : List Value} {b : Nat} {o o' : Obj} (h : w.ownsRow base e size v n xs) (hb : w.heap[b]? = some o) (hlt : b < base) :
    (setBlock w b o').ownsRow base e size v n xs := by
  obtain ⟨h1, h2⟩ := h
  refine ⟨h1, ?_⟩
  rcases h2 with h2 | ⟨g, cap, cur, hv, hg, hh, r⟩
  · exact .inl h2
  · exact .inr ⟨g, cap, cur, hv, hg, by rw [setBlock_other hb (by omega)]; exact hh, r⟩

/-- The same, at strings and at whole numbers, in the walk's own words. -/
theorem run_mapUpdate_str (ht : P.underlying t = some (.map kt et)) (hk : P.underlying kt = some .string)
    {b clock : Nat} {l : List (Ent (List UInt8))} (hb : w.heap[b]? = some (.map (strKeys.ents l) clock)) (k : List UInt8) (v : Value) :
    (Instr.mapUpdate t (.map (some b)) (.string ⟨k.toArray⟩) v).run P w = .ok () (setBlock w b (.map (strKeys.ents (aset l k v clock)) (aclock l k clock))) :=
  run_mapUpdate strKeys ht hk hb k v
theorem run_mapUpdate_int (ht : P.underlying t = some (.map kt et)) (hk : P.underlying kt = some (.int .i64))
    {b clock : Nat} {l : List (Ent Int)} (hb : w.heap[b]? = some (.map (intKeys.ents l) clock)) (k : Int) (v : Value) :
    (Instr.mapUpdate t (.map (some b)) (.int .i64 k) v).run P w = .ok () (setBlock w b (.map (intKeys.ents (aset l k v clock)) (aclock l k clock))) :=
  run_mapUpdate intKeys ht hk hb k v
end Go.Proofs.YtamlhndibcafgaaGreatDoor
