/- Plain lists: a log as chunks of payloads: where each record stands, what is next, what is read. No program in sight. Plain lists: what a store tells, out of its records and its entries. No program in sight. Plain lists: a stream's last version; one record's entries more. No program in sight. Plain lists: a store's log and its records; what is next, from record to record. No program in sight. -/
import Derived.Test.YtamlhndibcafgaaGreatDoorNext0
import Derived.Test.YtamlhndibcafgaaGreatDoorEntsP
import Derived.Test.YtamlhndibcafgaaGreatDoorBatchP
namespace Go.Proofs.YtamlhndibcafgaaGreatDoor

/-- A log: its chunks' payloads. -/
abbrev Pays := List (List (List UInt8))
def csOf (R : Pays) : List (List UInt8) := R.mapIdx fun n ps => chunkB n ps
theorem csOf_length (R : Pays) : (csOf R).length = R.length := by simp [csOf]
theorem csOf_get (R : Pays) (n : Nat) : (csOf R)[n]? = (R[n]?).map (chunkB n) := by simp [csOf, List.getElem?_mapIdx]
/-- Records with their places. -/
def recAt (base : Nat) : Nat → List (List UInt8) → List (Nat × List UInt8)
  | _, [] => []
  | i, p :: l => (base + i, p) :: recAt base (i + (p.length + 12)) l
def allFrom : Nat → Pays → List (Nat × List UInt8)
  | _, [] => []
  | n, ps :: R => recAt (n * 4096) 12 ps ++ allFrom (n + 1) R
def allR (R : Pays) : List (Nat × List UInt8) := allFrom 0 R
def bytesOf (l : List (List UInt8)) : Nat := (recsL l).length
theorem bytesOf_cons (p : List UInt8) (l : List (List UInt8)) : bytesOf (p :: l) = p.length + 12 + bytesOf l := by simp [bytesOf, recsL_cons]
theorem recsL_append (a b : List (List UInt8)) : recsL (a ++ b) = recsL a ++ recsL b := by simp [recsL]
theorem bytesOf_append (a b : List (List UInt8)) : bytesOf (a ++ b) = bytesOf a + bytesOf b := by simp [bytesOf, recsL_append]
@[simp] theorem bytesOf_nil : bytesOf [] = 0 := rfl
theorem bytesOf_one (p : List UInt8) : bytesOf [p] = p.length + 12 := by simp [bytesOf, recsL]
theorem chunkB_length (n : Nat) (l : List (List UInt8)) : (chunkB n l).length = 12 + bytesOf l := by simp [chunkB, bytesOf]
/-- Chunks that are none too great, of payloads that may be. -/
def WfR (R : Pays) : Prop := R.length ≤ 200 ∧ ∀ ps ∈ R, 12 + bytesOf ps ≤ 4096 ∧ ∀ p ∈ ps, p.length ≤ 2000
theorem recAt_mem {base : Nat} : ∀ {l : List (List UInt8)} {i : Nat} {x : Nat × List UInt8}, x ∈ recAt base i l → ∃ a b, l = a ++ x.2 :: b ∧ x.1 = base + i + bytesOf a := by
  intro l
  induction l with
  | nil => intro i x h; cases h
  | cons p l ih =>
    intro i x h
    rcases List.mem_cons.1 h with rfl | h
    · exact ⟨[], l, rfl, by simp⟩
    · obtain ⟨a, b, rfl, e⟩ := ih h
      exact ⟨p :: a, b, rfl, by rw [e, bytesOf_cons]; omega⟩
theorem recAt_append {base : Nat} : ∀ (a b : List (List UInt8)) (i : Nat), recAt base i (a ++ b) = recAt base i a ++ recAt base (i + bytesOf a) b := by
  intro a
  induction a with
  | nil => intro b i; simp [recAt]
  | cons p a ih => intro b i; rw [List.cons_append, recAt, ih, recAt, bytesOf_cons, List.cons_append]; congr 3; omega
theorem allFrom_mem : ∀ {R : Pays} {m : Nat} {x : Nat × List UInt8}, x ∈ allFrom m R → ∃ n ps a b, R[n]? = some ps ∧ ps = a ++ x.2 :: b ∧ x.1 = (m + n) * 4096 + 12 + bytesOf a := by
  intro R
  induction R with
  | nil => intro m x h; cases h
  | cons ps R ih =>
    intro m x h
    rcases List.mem_append.1 h with h | h
    · obtain ⟨a, b, e1, e2⟩ := recAt_mem h
      exact ⟨0, ps, a, b, rfl, e1, by rw [e2]; simp⟩
    · obtain ⟨n, ps', a, b, h1, h2, h3⟩ := ih h
      exact ⟨n + 1, ps', a, b, by simpa using h1, h2, by rw [h3, show m + 1 + n = m + (n + 1) by omega]⟩
theorem allFrom_append : ∀ (A B : Pays) (m : Nat), allFrom m (A ++ B) = allFrom m A ++ allFrom (m + A.length) B := by
  intro A
  induction A with
  | nil => intro B m; simp [allFrom]
  | cons ps A ih => intro B m; rw [List.cons_append, allFrom, ih, allFrom, List.append_assoc, List.length_cons, show m + 1 + A.length = m + (A.length + 1) by omega]
/-- Where the log ends. -/
def endR (R : Pays) : Nat := match R.getLast? with
  | none => 0
  | some ps => (R.length - 1) * 4096 + (12 + bytesOf ps)
theorem allR_behind (R : Pays) (ps : List (List UInt8)) (p : List UInt8) : allR (R ++ [ps ++ [p]]) = allR (R ++ [ps]) ++ [(R.length * 4096 + (12 + bytesOf ps), p)] := by
  unfold allR
  rw [allFrom_append, allFrom_append]
  simp only [allFrom, List.append_nil, Nat.zero_add]
  rw [recAt_append, List.append_assoc]
  simp [recAt]
theorem allR_begin (R : Pays) (p : List UInt8) : allR (R ++ [[p]]) = allR R ++ [(R.length * 4096 + 12, p)] := by
  unfold allR
  rw [allFrom_append]
  simp [allFrom, recAt]
/-- Each record ends ahead of the next one. -/
theorem recAt_ge {base : Nat} {l : List (List UInt8)} {i : Nat} {x : Nat × List UInt8} (h : x ∈ recAt base i l) : base + i ≤ x.1 ∧ x.1 + x.2.length + 12 ≤ base + i + bytesOf l := by
  obtain ⟨a, b, rfl, e⟩ := recAt_mem h
  rw [bytesOf_append, bytesOf_cons]; omega
theorem recAt_apart {base : Nat} : ∀ (l : List (List UInt8)) (i : Nat), (recAt base i l).Pairwise fun x y => x.1 + x.2.length + 12 ≤ y.1 := by
  intro l
  induction l with
  | nil => intro i; exact List.Pairwise.nil
  | cons p l ih =>
    intro i
    rw [recAt, List.pairwise_cons]
    refine ⟨fun y hy => ?_, ih _⟩
    have := (recAt_ge hy).1
    simp only; omega
theorem apart_aux (m n : Nat) : m * 4096 + 4096 ≤ (m + 1 + n) * 4096 := by omega
theorem apart_aux2 {x q q2 c b : Nat} (h1 : x ≤ q2 + 12 + b) (h2 : 12 + b ≤ 4096) (h3 : q2 + 4096 ≤ q) : x ≤ q + 12 + c := by omega
theorem allFrom_apart : ∀ (R : Pays) (m : Nat), (∀ ps ∈ R, 12 + bytesOf ps ≤ 4096) → (allFrom m R).Pairwise fun x y => x.1 + x.2.length + 12 ≤ y.1 := by
  intro R
  induction R with
  | nil => intro m _; exact List.Pairwise.nil
  | cons ps R ih =>
    intro m h
    rw [allFrom, List.pairwise_append]
    refine ⟨recAt_apart _ _, ih _ (fun q hq => h q (List.mem_cons_of_mem _ hq)), fun x hx y hy => ?_⟩
    have h1 := (recAt_ge hx).2
    have h2 := h ps (List.mem_cons_self ..)
    obtain ⟨n, ps', a, b, -, -, e⟩ := allFrom_mem hy
    rw [e]; exact apart_aux2 h1 h2 (apart_aux m n)
theorem allR_apart {R : Pays} (h : WfR R) : (allR R).Pairwise fun x y => x.1 + x.2.length + 12 ≤ y.1 := allFrom_apart R 0 (fun ps hp => (h.2 ps hp).1)
/-- A record's chunk, around it. -/
theorem allR_in {R : Pays} (h : WfR R) {x : Nat × List UInt8} (hx : x ∈ allR R) : ∃ n ps a b, R[n]? = some ps ∧ (csOf R)[n]? = some (a ++ (recL x.2 ++ b)) ∧ x.1 = n * 4096 + a.length ∧ 12 ≤ a.length ∧ a.length + x.2.length + 12 ≤ 12 + bytesOf ps ∧
    12 + bytesOf ps ≤ 4096 ∧ n < 200 ∧ x.2.length ≤ 2000 ∧ (a ++ (recL x.2 ++ b)).length = 12 + bytesOf ps := by
  obtain ⟨n, ps, a, b, h1, h2, h3⟩ := allFrom_mem hx
  have hlt : n < R.length := (List.getElem?_eq_some_iff.1 h1).1
  have hmem : ps ∈ R := List.mem_of_getElem? h1
  have hw := h.2 ps hmem
  have hp := hw.2 x.2 (by rw [h2]; simp)
  have hr : chunkB n ps = headL n ++ recsL a ++ (recL x.2 ++ recsL b) := by
    rw [chunkB, h2, recsL_append, recsL_cons, List.append_assoc]
  have hal : (headL n ++ recsL a).length = 12 + bytesOf a := by rw [List.length_append, headL_length]; rfl
  have hlen : (headL n ++ recsL a ++ (recL x.2 ++ recsL b)).length = 12 + bytesOf ps := by rw [← hr, chunkB_length]
  have h200 := h.1
  refine ⟨n, ps, headL n ++ recsL a, recsL b, h1, by rw [csOf_get, h1, Option.map_some, hr], ?_, by omega, ?_, hw.1, by omega, hp, hlen⟩
  · rw [h3, hal, Nat.zero_add]; exact Nat.add_assoc _ _ _
  · have : bytesOf ps = bytesOf a + (x.2.length + 12 + bytesOf b) := by rw [h2, bytesOf_append, bytesOf_cons]
    rw [this, hal]; omega
/-- The records of a chunk, as they are scanned. -/
theorem eachR_recs (l : List (List UInt8)) : ∀ (f : Nat) (a : List UInt8), l.length < f → (∀ p ∈ l, p.length ≤ 2000) →
    eachR (a ++ recsL l) f a.length = (recAt 0 a.length l).map fun x => (x.1, x.1 + (x.2.length + 12)) := by
  induction l with
  | nil =>
    intro f a hf _
    obtain ⟨f, rfl⟩ : ∃ g, f = g + 1 := ⟨f - 1, by simp at hf; omega⟩
    rw [eachR, getR_nil _ _ (by simp [recsL])]
    rfl
  | cons p l ih =>
    intro f a hf hp
    obtain ⟨f, rfl⟩ : ∃ g, f = g + 1 := ⟨f - 1, by simp at hf; omega⟩
    have h := ih f (a ++ recL p) (by simp at hf; omega) (fun q hq => hp q (List.mem_cons_of_mem _ hq))
    rw [eachR, recsL_cons, getR_put a p (recsL l) (hp p (List.mem_cons_self ..)), recAt]
    simp only [List.append_assoc, List.length_append, recL_length] at h ⊢
    rw [h]
    simp
theorem length_le_bytes (l : List (List UInt8)) : l.length * 12 ≤ bytesOf l := by
  induction l with
  | nil => simp
  | cons p l ih => rw [bytesOf_cons, List.length_cons]; omega
theorem eachR_chunk (n : Nat) (ps : List (List UInt8)) (hp : ∀ p ∈ ps, p.length ≤ 2000) : eachR (chunkB n ps) ((chunkB n ps).length + 1) 12 = (recAt 0 12 ps).map fun x => (x.1, x.1 + (x.2.length + 12)) := by
  have h := eachR_recs ps ((chunkB n ps).length + 1) (headL n) (by rw [chunkB_length]; have := length_le_bytes ps; omega) hp
  rw [headL_length] at h
  exact h
theorem payAt_chunk (n : Nat) (ps : List (List UInt8)) (hp : ∀ p ∈ ps, p.length ≤ 2000) {x : Nat × List UInt8} (hx : x ∈ recAt 0 12 ps) : payAt (chunkB n ps) x.1 = x.2 := by
  obtain ⟨a, b, rfl, e⟩ := recAt_mem hx
  have h := getR_put (headL n ++ recsL a) x.2 (recsL b) (hp _ (by simp))
  have hl : (headL n ++ recsL a).length = x.1 := by rw [e]; simp [bytesOf]
  rw [hl] at h
  have hr : chunkB n (a ++ x.2 :: b) = headL n ++ recsL a ++ (recL x.2 ++ recsL b) := by
    rw [chunkB, recsL_append, recsL_cons, List.append_assoc]
  unfold payAt
  rw [hr, h]
theorem recAt_shift (base : Nat) : ∀ (l : List (List UInt8)) (i : Nat), recAt base i l = (recAt 0 i l).map fun x => (base + x.1, x.2) := by
  intro l
  induction l with
  | nil => intro i; rfl
  | cons p l ih => intro i; rw [recAt, ih, recAt]; simp
def nextOf (x : Nat × List UInt8) : List UInt8 × Nat × Nat := (x.2, x.1, x.1 + (x.2.length + 12))
theorem find_map_eq {α β γ : Type} (l : List α) (f : α → β) (q : β → Bool) (g : β → γ) : ((l.map f).find? q).map g = (l.find? (fun x => q (f x))).map (fun x => g (f x)) := by
  rw [List.find?_map, Option.map_map]; rfl
theorem find_congr_map {α γ : Type} (l : List α) (q : α → Bool) (g g' : α → γ) (h : ∀ x ∈ l, g x = g' x) : (l.find? q).map g = (l.find? q).map g' := by
  cases hf : l.find? q with
  | none => rfl
  | some x => simp [h x (List.mem_of_find?_eq_some hf)]
theorem nextC_chunk (n pos : Nat) (ps : List (List UInt8)) (hp : ∀ p ∈ ps, p.length ≤ 2000) : nextC (chunkB n ps) n pos = ((recAt (n * 4096) 12 ps).find? fun x => decide (pos ≤ x.1)).map nextOf := by
  unfold nextC
  rw [eachR_chunk n ps hp, find_map_eq, recAt_shift (n * 4096), find_map_eq]
  refine find_congr_map _ _ _ _ (fun x hx => ?_)
  rw [payAt_chunk n ps hp hx]
  simp [nextOf]; omega
theorem nextL_from (R : Pays) (hw : ∀ ps ∈ R, ∀ p ∈ ps, p.length ≤ 2000) (pos : Nat) : ∀ (f n : Nat), n + f = R.length → nextL (csOf R) pos f n = ((allFrom n (R.drop n)).find? fun x => decide (pos ≤ x.1)).map nextOf := by
  intro f
  induction f with
  | zero =>
    intro n h
    rw [nextL, List.drop_of_length_le (by omega)]
    rfl
  | succ f ih =>
    intro n h
    have hlt : n < R.length := by omega
    have hg : R[n]? = some R[n] := List.getElem?_eq_getElem hlt
    have hc : (csOf R)[n]? = some (chunkB n R[n]) := by rw [csOf_get, hg]; rfl
    have hd : R.drop n = R[n] :: R.drop (n + 1) := List.drop_eq_getElem_cons hlt
    have hx := nextC_chunk n pos R[n] (hw _ (List.getElem_mem hlt))
    rw [hd, allFrom, List.find?_append]
    cases hf : (recAt (n * 4096) 12 R[n]).find? fun x => decide (pos ≤ x.1) with
    | none =>
      rw [hf] at hx
      rw [nextL_none hc hx, ih (n + 1) (by omega)]
      simp
    | some y =>
      rw [hf] at hx
      rw [nextL_some hc hx]
      simp
theorem allFrom_lt {R : Pays} (hw : ∀ ps ∈ R, 12 + bytesOf ps ≤ 4096) {m : Nat} {x : Nat × List UInt8} (hx : x ∈ allFrom m R) : x.1 < (m + R.length) * 4096 := by
  obtain ⟨n, ps, a, b, h1, h2, h3⟩ := allFrom_mem hx
  have hlt : n < R.length := (List.getElem?_eq_some_iff.1 h1).1
  have h4 := hw ps (List.mem_of_getElem? h1)
  rw [h2, bytesOf_append, bytesOf_cons] at h4
  have : (m + n) * 4096 + 4096 ≤ (m + R.length) * 4096 := by
    rw [show (m + n) * 4096 + 4096 = (m + n + 1) * 4096 by omega]; exact Nat.mul_le_mul_right _ (by omega)
  omega
/-- What is next: the first record that does not stand ahead. -/
theorem nextL_all {R : Pays} (hw : WfR R) (pos : Nat) : nextL (csOf R) pos ((csOf R).length - pos / 4096) (pos / 4096) = ((allR R).find? fun x => decide (pos ≤ x.1)).map nextOf := by
  rw [csOf_length]
  by_cases hn : pos / 4096 ≤ R.length
  · rw [nextL_from R (fun ps hp => (hw.2 ps hp).2) pos _ _ (by omega)]
    unfold allR
    have e : R = R.take (pos / 4096) ++ R.drop (pos / 4096) := (List.take_append_drop _ _).symm
    conv => rhs; rw [e]
    rw [allFrom_append, List.find?_append]
    have hnone : (allFrom 0 (R.take (pos / 4096))).find? (fun x => decide (pos ≤ x.1)) = none := by
      rw [List.find?_eq_none]
      intro x hx
      have := allFrom_lt (fun ps hp => (hw.2 ps (List.mem_of_mem_take hp)).1) hx
      rw [List.length_take] at this
      simp only [decide_eq_true_eq]; omega
    rw [hnone, Option.none_or, List.length_take, Nat.zero_add, Nat.min_eq_left hn]
  · rw [show R.length - pos / 4096 = 0 by omega]
    have hnone : (allR R).find? (fun x => decide (pos ≤ x.1)) = none := by
      rw [List.find?_eq_none]
      intro x hx
      have := allFrom_lt (m := 0) (fun ps hp => (hw.2 ps hp).1) hx
      simp only [decide_eq_true_eq]
      have h2 : (0 + R.length) * 4096 ≤ (pos / 4096) * 4096 := Nat.mul_le_mul_right _ (by omega)
      omega
    rw [hnone]; rfl
end Go.Proofs.YtamlhndibcafgaaGreatDoor

namespace Go.Proofs.YtamlhndibcafgaaGreatDoor

structure Bt where
  st : List UInt8
  first : Nat
  evs : List Ev
def Bt.pay (b : Bt) : List UInt8 := putB b.st b.first b.evs
def BtOk (b : Bt) : Prop := streamB b.st = true ∧ 1 ≤ b.evs.length ∧ b.evs.length ≤ 8 ∧ b.first + b.evs.length ≤ 1073741824 ∧ ∀ e ∈ b.evs, EvOk e
def tellB (b : Bt) : List Tl := b.evs.mapIdx fun i e => ⟨b.st, b.first + i, e⟩
abbrev Recs := List (Nat × Bt)
def tolds (l : Recs) : List Tl := l.flatMap fun x => tellB x.2
def entsB (H : List UInt8 → Nat) (x : Nat × Bt) : List En := (List.range x.2.evs.length).map fun i => ⟨H x.2.st, x.2.first + i, x.1⟩
def entsR (H : List UInt8 → Nat) (l : Recs) : List En := l.flatMap (entsB H)
/-- Each record goes on where its stream is. -/
def VerR (l : Recs) : Prop := ∀ pre x post, l = pre ++ x :: post → x.2.first = cnt (tolds pre) x.2.st
def PosR (l : Recs) : Prop := l.Pairwise fun x y => x.1 < y.1
theorem tolds_append (a b : Recs) : tolds (a ++ b) = tolds a ++ tolds b := by simp [tolds]
theorem cnt_append (a b : List Tl) (st : List UInt8) : cnt (a ++ b) st = cnt a st + cnt b st := by simp [cnt]
theorem tellB_get (b : Bt) (i : Nat) : (tellB b)[i]? = (b.evs[i]?).map fun e => ⟨b.st, b.first + i, e⟩ := by simp [tellB, List.getElem?_mapIdx]
theorem tellB_mem {b : Bt} {t : Tl} : t ∈ tellB b ↔ ∃ i, ∃ h : i < b.evs.length, t = ⟨b.st, b.first + i, b.evs[i]⟩ := by
  rw [List.mem_iff_getElem?]
  constructor
  · rintro ⟨i, hi⟩
    rw [tellB_get] at hi
    obtain ⟨e, he, rfl⟩ := Option.map_eq_some_iff.1 hi
    obtain ⟨h, rfl⟩ := List.getElem?_eq_some_iff.1 he
    exact ⟨i, h, rfl⟩
  · rintro ⟨i, h, rfl⟩
    exact ⟨i, by rw [tellB_get, List.getElem?_eq_getElem h]; rfl⟩
theorem tellB_st {b : Bt} {t : Tl} (h : t ∈ tellB b) : t.st = b.st := by obtain ⟨i, _, rfl⟩ := tellB_mem.1 h; rfl
theorem tellB_length (b : Bt) : (tellB b).length = b.evs.length := by simp [tellB]
theorem cnt_tellB (b : Bt) (st : List UInt8) : cnt (tellB b) st = if b.st = st then b.evs.length else 0 := by
  unfold cnt
  by_cases h : b.st = st
  · rw [if_pos h, List.filter_eq_self.2 (fun t ht => by rw [tellB_st ht, h]; exact beq_self_eq_true st), tellB_length]
  · rw [if_neg h, List.filter_eq_nil_iff.2 (fun t ht => by rw [tellB_st ht]; simpa using h)]; rfl
theorem mem_tolds {l : Recs} {t : Tl} : t ∈ tolds l ↔ ∃ x ∈ l, t ∈ tellB x.2 := by simp [tolds]
theorem mem_entsR {H : List UInt8 → Nat} {l : Recs} {e : En} : e ∈ entsR H l ↔ ∃ x ∈ l, ∃ i < x.2.evs.length, e = ⟨H x.2.st, x.2.first + i, x.1⟩ := by
  unfold entsR entsB
  simp only [List.mem_flatMap, List.mem_map, List.mem_range]
  constructor
  · rintro ⟨x, hx, i, hi, rfl⟩; exact ⟨x, hx, i, hi, rfl⟩
  · rintro ⟨x, hx, i, hi, rfl⟩; exact ⟨x, hx, i, hi, rfl⟩
theorem VerR.snoc {l : Recs} (h : VerR l) {x : Nat × Bt} (hx : x.2.first = cnt (tolds l) x.2.st) : VerR (l ++ [x]) := by
  intro pre y post e
  rcases List.eq_nil_or_concat post with rfl | ⟨p, z, rfl⟩
  · have := List.append_inj' e rfl
    obtain ⟨rfl, e2⟩ := this
    cases e2; exact hx
  · rw [List.concat_eq_append, ← List.cons_append, ← List.append_assoc] at e
    have := List.append_inj' e rfl
    exact h pre y p this.1
theorem VerR.init {l : Recs} {x : Nat × Bt} (h : VerR (l ++ [x])) : VerR l := fun pre y post e => h pre y (post ++ [x]) (by rw [e]; simp)
/-- Of one stream each version is told once, and they rise. -/
theorem tolds_rise : ∀ (l : Recs), VerR l → ∀ st, ((tolds l).filter fun t => t.st == st).Pairwise (fun a b => a.ver < b.ver) ∧ ∀ t ∈ tolds l, t.st = st → t.ver < cnt (tolds l) st := by
  intro l
  induction hn : l.length generalizing l with
  | zero =>
    intro _ st
    have := List.eq_nil_of_length_eq_zero hn; subst this
    exact ⟨List.Pairwise.nil, fun t ht => by cases ht⟩
  | succ n ih =>
    intro hv st
    rcases List.eq_nil_or_concat l with rfl | ⟨l0, x, rfl⟩
    · cases hn
    rw [List.concat_eq_append] at hv ⊢
    have h0 := ih l0 (by simpa using hn) hv.init st
    have hf := hv l0 x [] rfl
    have et : tolds (l0 ++ [x]) = tolds l0 ++ tellB x.2 := by rw [tolds_append]; simp [tolds]
    rw [et, cnt_append, cnt_tellB]
    constructor
    · rw [List.filter_append, List.pairwise_append]
      refine ⟨h0.1, ?_, ?_⟩
      · refine List.Pairwise.filter _ ?_
        rw [List.pairwise_iff_getElem]
        intro i j hi hj hij
        have hi' : (tellB x.2)[i]? = some (tellB x.2)[i] := List.getElem?_eq_getElem hi
        have hj' : (tellB x.2)[j]? = some (tellB x.2)[j] := List.getElem?_eq_getElem hj
        rw [tellB_get] at hi' hj'
        obtain ⟨_, _, e1⟩ := Option.map_eq_some_iff.1 hi'
        obtain ⟨_, _, e2⟩ := Option.map_eq_some_iff.1 hj'
        rw [← e1, ← e2]; simp only; omega
      · intro a ha b hb
        rw [List.mem_filter] at ha hb
        have h1 := h0.2 a ha.1 (by simpa using ha.2)
        obtain ⟨i, _, rfl⟩ := tellB_mem.1 hb.1
        have : x.2.st = st := by simpa using hb.2
        rw [← this] at h1
        simp only; omega
    · intro t ht hst
      rcases List.mem_append.1 ht with ht | ht
      · have := h0.2 t ht hst; omega
      · obtain ⟨i, hi, rfl⟩ := tellB_mem.1 ht
        simp only at hst
        subst hst
        rw [if_pos rfl]; simp only; omega
/-- .. and all up to the last one are. -/
theorem tolds_all : ∀ (l : Recs), VerR l → ∀ st v, v < cnt (tolds l) st → ∃ x ∈ l, x.2.st = st ∧ x.2.first ≤ v ∧ v < x.2.first + x.2.evs.length := by
  intro l
  induction hn : l.length generalizing l with
  | zero =>
    intro _ st v h
    have := List.eq_nil_of_length_eq_zero hn; subst this
    simp [tolds, cnt] at h
  | succ n ih =>
    intro hv st v h
    rcases List.eq_nil_or_concat l with rfl | ⟨l0, x, rfl⟩
    · cases hn
    rw [List.concat_eq_append] at hv h ⊢
    have hf := hv l0 x [] rfl
    have et : tolds (l0 ++ [x]) = tolds l0 ++ tellB x.2 := by rw [tolds_append]; simp [tolds]
    rw [et, cnt_append, cnt_tellB] at h
    by_cases hlt : v < cnt (tolds l0) st
    · obtain ⟨y, hy, h1⟩ := ih l0 (by simpa using hn) hv.init st v hlt
      exact ⟨y, List.mem_append_left _ hy, h1⟩
    · by_cases hst : x.2.st = st
      · rw [if_pos hst] at h
        subst hst
        exact ⟨x, by simp, rfl, by omega, by omega⟩
      · rw [if_neg hst] at h; omega
theorem rise_eq {α : Type} (f : α → Nat) : ∀ (a b : List α), a.Pairwise (fun x y => f x < f y) → b.Pairwise (fun x y => f x < f y) → (∀ x, x ∈ a ↔ x ∈ b) → a = b := by
  intro a
  induction a with
  | nil =>
    intro b _ _ h
    cases b with
    | nil => rfl
    | cons y b => exact absurd ((h y).2 (List.mem_cons_self ..)) (by simp)
  | cons x a ih =>
    intro b ha hb h
    cases b with
    | nil => exact absurd ((h x).1 (List.mem_cons_self ..)) (by simp)
    | cons y b =>
      rw [List.pairwise_cons] at ha hb
      have hxy : x = y := by
        rcases List.mem_cons.1 ((h x).1 (List.mem_cons_self ..)) with e | e
        · exact e
        · rcases List.mem_cons.1 ((h y).2 (List.mem_cons_self ..)) with e2 | e2
          · exact e2.symm
          · have := hb.1 x e; have := ha.1 y e2; omega
      subst hxy
      rw [ih b ha.2 hb.2 (fun z => ?_)]
      constructor
      · intro hz
        rcases List.mem_cons.1 ((h z).1 (List.mem_cons_of_mem _ hz)) with e | e
        · subst e; have := ha.1 z hz; omega
        · exact e
      · intro hz
        rcases List.mem_cons.1 ((h z).2 (List.mem_cons_of_mem _ hz)) with e | e
        · subst e; have := hb.1 z hz; omega
        · exact e
/-- The event of an entry, if it is one of a stream. -/
def foundP (l : Recs) (st : List UInt8) (e : En) : Option Tl :=
  match l.find? fun x => x.1 == e.p with
  | none => none
  | some x => if x.2.st = st then (x.2.evs[e.v - x.2.first]?).map fun y => ⟨st, e.v, y⟩ else none
theorem find_pos {l : Recs} (hp : PosR l) {x : Nat × Bt} (hx : x ∈ l) : (l.find? fun y => y.1 == x.1) = some x := by
  induction l with
  | nil => cases hx
  | cons y l ih =>
    unfold PosR at hp
    rw [List.pairwise_cons] at hp
    rcases List.mem_cons.1 hx with rfl | hx
    · simp
    · have := hp.1 x hx
      rw [List.find?_cons, show (y.1 == x.1) = false by rw [beq_eq_false_iff_ne]; omega]
      exact ih hp.2 hx
/-- The entries are those of the records. -/
structure Ents (H : List UInt8 → Nat) (l : Recs) (E : List En) : Prop where
  sorted : SortedE E
  mem : ∀ e, e ∈ E ↔ e ∈ entsR H l
theorem foundP_some {H : List UInt8 → Nat} {l : Recs} {E : List En} (hp : PosR l) (hE : Ents H l E) {e : En} (he : e ∈ E) {st : List UInt8} {t : Tl} (h : foundP l st e = some t) :
    t ∈ tolds l ∧ t.st = st ∧ t.ver = e.v ∧ ∃ x ∈ l, x.1 = e.p ∧ x.2.st = st ∧ x.2.first ≤ e.v ∧ e.v < x.2.first + x.2.evs.length := by
  obtain ⟨x, hx, i, hi, rfl⟩ := mem_entsR.1 ((hE.mem e).1 he)
  unfold foundP at h
  rw [find_pos hp hx] at h
  simp only at h
  split at h
  · rename_i hst
    rw [show x.2.first + i - x.2.first = i by omega, List.getElem?_eq_getElem hi] at h
    cases h
    subst hst
    exact ⟨mem_tolds.2 ⟨x, hx, tellB_mem.2 ⟨i, hi, rfl⟩⟩, rfl, rfl, x, hx, rfl, rfl, by simp, by simpa using hi⟩
  · cases h
theorem same_rec {l : Recs} (hv : VerR l) {x y : Nat × Bt} (hx : x ∈ l) (hy : y ∈ l) (hst : x.2.st = y.2.st) {v : Nat} (h1 : x.2.first ≤ v) (h2 : v < x.2.first + x.2.evs.length) (h3 : y.2.first ≤ v) (h4 : v < y.2.first + y.2.evs.length) : x = y := by
  induction hn : l.length generalizing l with
  | zero => have := List.eq_nil_of_length_eq_zero hn; subst this; cases hx
  | succ n ih =>
    rcases List.eq_nil_or_concat l with rfl | ⟨l0, z, rfl⟩
    · cases hn
    rw [List.concat_eq_append] at hv hx hy
    have key : ∀ q : Nat × Bt, q ∈ l0 → q.2.first + q.2.evs.length ≤ cnt (tolds l0) q.2.st := by
      intro q hq
      have h0 := (tolds_rise l0 hv.init q.2.st).2
      by_cases h0l : q.2.evs.length = 0
      · obtain ⟨pre, post, e⟩ := List.append_of_mem hq
        have := hv.init pre q post e
        rw [h0l, this, e, tolds_append, cnt_append]; omega
      · have := h0 ⟨q.2.st, q.2.first + (q.2.evs.length - 1), q.2.evs[q.2.evs.length - 1]⟩ (mem_tolds.2 ⟨q, hq, tellB_mem.2 ⟨_, by omega, rfl⟩⟩) rfl
        simp only at this; omega
    have hz := hv l0 z [] rfl
    rcases List.mem_append.1 hx with hx | hx <;> rcases List.mem_append.1 hy with hy | hy
    · exact ih hv.init hx hy (by simpa using hn)
    · have e : y = z := by simpa using hy
      have := key x hx
      rw [e] at hst h3
      rw [hst] at this; omega
    · have e : x = z := by simpa using hx
      have := key y hy
      rw [e] at hst h1
      rw [← hst] at this; omega
    · have e : x = z := by simpa using hx
      have e2 : y = z := by simpa using hy
      rw [e, e2]
/-- What is found between two versions is what is told of them. -/
theorem between_law {H : List UInt8 → Nat} {l : Recs} {E : List En} (hv : VerR l) (hp : PosR l) (hE : Ents H l E) (st : List UInt8) (a b : Int) :
    (rangeE E (H st) a b).filterMap (foundP l st) = (tolds l).filter fun t => t.st == st && (decide (a ≤ (t.ver : Int)) && decide ((t.ver : Int) ≤ b)) := by
  refine rise_eq Tl.ver _ _ ?_ ?_ (fun t => ?_)
  · rw [List.pairwise_filterMap]
    have hs : (rangeE E (H st) a b).Pairwise fun x y => lessB x y = true := hE.sorted.filter _
    refine List.Pairwise.imp_of_mem ?_ hs
    intro x y hx hy hxy t ht u hu
    have hxE := (List.mem_filter.1 hx).1
    have hyE := (List.mem_filter.1 hy).1
    have hxI := (List.mem_filter.1 hx).2
    have hyI := (List.mem_filter.1 hy).2
    unfold inB at hxI hyI
    rw [decide_eq_true_iff] at hxI hyI
    obtain ⟨-, -, h1, r1, hr1, hp1, hs1, ha1, hb1⟩ := foundP_some hp hE hxE ht
    obtain ⟨-, -, h2, r2, hr2, hp2, hs2, ha2, hb2⟩ := foundP_some hp hE hyE hu
    rw [lessB_iff] at hxy
    rw [h1, h2]
    by_cases hc : x.v < y.v
    · exact hc
    · exfalso
      have he : x.v = y.v := by omega
      have := same_rec hv hr1 hr2 (by rw [hs1, hs2]) ha1 hb1 (by omega) (by omega)
      subst this
      omega
  · have h := (tolds_rise l hv st).1
    have e : ((tolds l).filter fun t => t.st == st && (decide (a ≤ (t.ver : Int)) && decide ((t.ver : Int) ≤ b))) = (((tolds l).filter fun t => t.st == st).filter fun t => decide (a ≤ (t.ver : Int)) && decide ((t.ver : Int) ≤ b)) := by
      rw [List.filter_filter]; congr 1; funext t; rw [Bool.and_comm]
    rw [e]; exact h.filter _
  · rw [List.mem_filterMap, List.mem_filter]
    constructor
    · rintro ⟨e, he, h⟩
      have heE := (List.mem_filter.1 he).1
      have heI := (List.mem_filter.1 he).2
      unfold inB at heI
      rw [decide_eq_true_iff] at heI
      obtain ⟨h1, h2, h3, -⟩ := foundP_some hp hE heE h
      refine ⟨h1, ?_⟩
      rw [h2, h3]
      simp only [beq_self_eq_true, Bool.true_and, Bool.and_eq_true, decide_eq_true_eq]
      omega
    · rintro ⟨h1, h2⟩
      simp only [Bool.and_eq_true, decide_eq_true_eq, beq_iff_eq] at h2
      obtain ⟨x, hx, ht⟩ := mem_tolds.1 h1
      obtain ⟨i, hi, rfl⟩ := tellB_mem.1 ht
      simp only at h2
      obtain ⟨rfl, h2a, h2b⟩ := h2
      refine ⟨⟨H x.2.st, x.2.first + i, x.1⟩, List.mem_filter.2 ⟨(hE.mem _).2 (mem_entsR.2 ⟨x, hx, i, hi, rfl⟩), ?_⟩, ?_⟩
      · unfold inB; rw [decide_eq_true_iff]; exact ⟨rfl, h2a, h2b⟩
      · unfold foundP
        simp only
        rw [find_pos hp hx]
        simp only [if_true]
        rw [show x.2.first + i - x.2.first = i by omega, List.getElem?_eq_getElem hi]
        rfl
end Go.Proofs.YtamlhndibcafgaaGreatDoor

namespace Go.Proofs.YtamlhndibcafgaaGreatDoor

section
variable {H : List UInt8 → Nat} {l : Recs} {E : List En}
/-- A version that is told has its entry. -/
theorem ent_of (hv : VerR l) (hE : Ents H l E) {st : List UInt8} {v : Nat} (h : v < cnt (tolds l) st) : ∃ e ∈ E, e.h = H st ∧ e.v = v := by
  obtain ⟨x, hx, rfl, h1, h2⟩ := tolds_all l hv st v h
  exact ⟨⟨H x.2.st, x.2.first + (v - x.2.first), x.1⟩, (hE.mem _).2 (mem_entsR.2 ⟨x, hx, v - x.2.first, by omega, rfl⟩), rfl, by simp only; omega⟩
theorem last_none (hv : VerR l) (hE : Ents H l E) {st : List UInt8} {u : Int} (h : lastE E (H st) u = none) (hu : (cnt (tolds l) st : Int) ≤ u + 1) : cnt (tolds l) st = 0 := by
  rw [lastE_none] at h
  by_cases hc : cnt (tolds l) st = 0
  · exact hc
  · obtain ⟨e, he, h1, h2⟩ := ent_of hv hE (st := st) (v := cnt (tolds l) st - 1) (by omega)
    exact absurd ⟨h1, by omega⟩ (h e he)
theorem getLast_max {E : List En} (hs : SortedE E) {e : En} {h : Nat} {u : Int} (hl : lastE E h u = some e) : e ∈ E ∧ e.h = h ∧ (e.v : Int) ≤ u ∧ ∀ x ∈ E, x.h = h → (x.v : Int) ≤ u → x.v ≤ e.v := by
  unfold lastE at hl
  obtain ⟨l0, hl0⟩ := List.getLast?_eq_some_iff.1 hl
  have hmem : e ∈ E.filter (inB h 0 u) := by rw [hl0]; simp
  have h1 := List.mem_filter.1 hmem
  have h2 := h1.2
  unfold inB at h2; rw [decide_eq_true_iff] at h2
  refine ⟨h1.1, h2.1, h2.2.2, fun x hx hxh hxu => ?_⟩
  have hxm : x ∈ E.filter (inB h 0 u) := List.mem_filter.2 ⟨hx, by unfold inB; rw [decide_eq_true_iff]; omega⟩
  rw [hl0] at hxm
  rcases List.mem_append.1 hxm with hxm | hxm
  · have hp : (E.filter (inB h 0 u)).Pairwise fun a b => lessB a b = true := hs.filter _
    rw [hl0, List.pairwise_append] at hp
    have := hp.2.2 x hxm e (by simp)
    rw [lessB_iff] at this; omega
  · have : x = e := by simpa using hxm
    rw [this]; exact Nat.le_refl _
theorem last_some (hv : VerR l) (hE : Ents H l E) {st : List UInt8} {u : Int} {e : En} (h : lastE E (H st) u = some e) (hu : (cnt (tolds l) st : Int) ≤ u + 1) : cnt (tolds l) st ≤ e.v + 1 := by
  obtain ⟨-, -, -, h4⟩ := getLast_max hE.sorted h
  by_cases hc : cnt (tolds l) st = 0
  · omega
  · obtain ⟨x, hx, h1, h2⟩ := ent_of hv hE (st := st) (v := cnt (tolds l) st - 1) (by omega)
    have := h4 x hx h1 (by omega)
    omega
/-- What is told of one version. -/
def selP (l : Recs) (st : List UInt8) (a b : Int) : List Tl := (tolds l).filter fun t => t.st == st && (decide (a ≤ (t.ver : Int)) && decide ((t.ver : Int) ≤ b))
theorem told_at (hv : VerR l) {st : List UInt8} {v : Nat} (h : v < cnt (tolds l) st) : ∃ t ∈ tolds l, t.st = st ∧ t.ver = v := by
  obtain ⟨x, hx, rfl, h1, h2⟩ := tolds_all l hv st v h
  exact ⟨⟨x.2.st, x.2.first + (v - x.2.first), x.2.evs[v - x.2.first]⟩, mem_tolds.2 ⟨x, hx, tellB_mem.2 ⟨_, by omega, rfl⟩⟩, rfl, by simp only; omega⟩
theorem selP_one_nil (hv : VerR l) {st : List UInt8} {v : Nat} (h : selP l st v v = []) : cnt (tolds l) st ≤ v ∨ False := by
  by_cases hc : cnt (tolds l) st ≤ v
  · exact .inl hc
  · obtain ⟨t, ht, h1, h2⟩ := told_at hv (st := st) (v := v) (by omega)
    unfold selP at h
    rw [List.filter_eq_nil_iff] at h
    have := h t ht
    rw [h1, h2] at this
    simp at this
theorem selP_one_some (hv : VerR l) {st : List UInt8} {v : Nat} (h : selP l st v v ≠ []) : v < cnt (tolds l) st := by
  obtain ⟨t, ht⟩ := List.exists_mem_of_ne_nil _ h
  obtain ⟨h1, h2⟩ := List.mem_filter.1 ht
  simp only [Bool.and_eq_true, decide_eq_true_eq, beq_iff_eq] at h2
  have := (tolds_rise l hv st).2 t h1 h2.1
  omega
/-- One record more: its entries come in one by one. -/
structure EntsTo (H : List UInt8 → Nat) (l : Recs) (x : Nat × Bt) (k : Nat) (E : List En) : Prop where
  sorted : SortedE E
  mem : ∀ e, e ∈ E ↔ e ∈ entsR H l ∨ ∃ i < k, e = ⟨H x.2.st, x.2.first + i, x.1⟩
theorem entsTo_zero (hE : Ents H l E) (x : Nat × Bt) : EntsTo H l x 0 E := ⟨hE.sorted, fun e => by rw [hE.mem]; simp⟩
theorem entsTo_step {x : Nat × Bt} {k : Nat} (h : EntsTo H l x k E) (hp : ∀ y ∈ l, y.1 < x.1) : (⟨H x.2.st, x.2.first + k, x.1⟩ : En) ∉ E ∧ EntsTo H l x (k + 1) (insE E ⟨H x.2.st, x.2.first + k, x.1⟩) := by
  have hn : (⟨H x.2.st, x.2.first + k, x.1⟩ : En) ∉ E := by
    intro hc
    rcases (h.mem _).1 hc with h1 | ⟨i, hi, e⟩
    · obtain ⟨y, hy, i, -, e⟩ := mem_entsR.1 h1
      have := hp y hy
      simp only [En.mk.injEq] at e
      omega
    · simp only [En.mk.injEq] at e
      omega
  refine ⟨hn, insE_sorted h.sorted hn, fun e => ?_⟩
  rw [mem_insE, h.mem]
  constructor
  · rintro (rfl | h1 | ⟨i, hi, rfl⟩)
    · exact .inr ⟨k, by omega, rfl⟩
    · exact .inl h1
    · exact .inr ⟨i, by omega, rfl⟩
  · rintro (h1 | ⟨i, hi, rfl⟩)
    · exact .inr (.inl h1)
    · by_cases e : i = k
      · subst e; exact .inl rfl
      · exact .inr (.inr ⟨i, by omega, rfl⟩)
theorem entsTo_all {x : Nat × Bt} (h : EntsTo H l x x.2.evs.length E) : Ents H (l ++ [x]) E :=
  ⟨h.sorted, fun e => by
    rw [h.mem, show entsR H (l ++ [x]) = entsR H l ++ entsB H x by simp [entsR], List.mem_append]
    refine or_congr Iff.rfl ?_
    unfold entsB
    simp only [List.mem_map, List.mem_range]
    constructor
    · rintro ⟨i, hi, rfl⟩; exact ⟨i, hi, rfl⟩
    · rintro ⟨i, hi, rfl⟩; exact ⟨i, hi, rfl⟩⟩
end
end Go.Proofs.YtamlhndibcafgaaGreatDoor

namespace Go.Proofs.YtamlhndibcafgaaGreatDoor

/-- The log's records are these batches. -/
structure Told (R : Pays) (l : Recs) : Prop where
  wf : WfR R
  all : allR R = l.map fun x => (x.1, x.2.pay)
  ok : ∀ x ∈ l, BtOk x.2
  ver : VerR l
theorem Told.pos {R : Pays} {l : Recs} (h : Told R l) : l.Pairwise fun x y => x.1 + x.2.pay.length + 12 ≤ y.1 := by
  have := allR_apart h.wf
  rw [h.all, List.pairwise_map] at this
  exact this
theorem Told.posR {R : Pays} {l : Recs} (h : Told R l) : PosR l := h.pos.imp (fun {a b} h => by omega)
theorem Told.lt {R : Pays} {l : Recs} (h : Told R l) {x : Nat × Bt} (hx : x ∈ l) : x.1 < 819200 := by
  have hm : (x.1, x.2.pay) ∈ allR R := by rw [h.all]; exact List.mem_map.2 ⟨x, hx, rfl⟩
  have h1 := allFrom_lt (m := 0) (fun ps hp => (h.wf.2 ps hp).1) hm
  have h2 := h.wf.1
  have h3 : (0 + R.length) * 4096 ≤ 200 * 4096 := Nat.mul_le_mul_right _ (by omega)
  simp only at h1
  omega
theorem Told.len {R : Pays} {l : Recs} (h : Told R l) {x : Nat × Bt} (hx : x ∈ l) : x.2.pay.length ≤ 2000 := by
  have hm : (x.1, x.2.pay) ∈ allR R := by rw [h.all]; exact List.mem_map.2 ⟨x, hx, rfl⟩
  obtain ⟨n, ps, a, b, -, -, -, -, -, -, -, h8, -⟩ := allR_in h.wf hm
  exact h8
theorem find_at {α : Type} (q : α → Bool) (l : List α) (i : Nat) (h1 : ∀ j (_ : j < i) (h : j < l.length), q l[j] = false) (h2 : ∀ j (_ : i ≤ j) (h : j < l.length), q l[j] = true) : l.find? q = l[i]? := by
  have e : l = l.take i ++ l.drop i := (List.take_append_drop _ _).symm
  have f1 : (l.take i).find? q = none := by
    rw [List.find?_eq_none]
    intro x hx
    obtain ⟨k, hk, rfl⟩ := List.mem_iff_getElem.1 hx
    rw [List.getElem_take]
    have := h1 k (by simp at hk; omega) (by simp at hk; omega)
    simp [this]
  conv => lhs; rw [e]
  rw [List.find?_append, f1, Option.none_or]
  by_cases hl : i < l.length
  · rw [List.drop_eq_getElem_cons hl, List.find?_cons, h2 i (Nat.le_refl _) hl, List.getElem?_eq_getElem hl]
  · rw [List.drop_of_length_le (by omega), List.getElem?_eq_none (by omega)]; rfl
/-- A place between two records. -/
structure Between (l : Recs) (i p : Nat) : Prop where
  lo : ∀ j (_ : j < i) (h : j < l.length), l[j].1 < p
  hi : ∀ j (_ : i ≤ j) (h : j < l.length), p ≤ l[j].1
  le : p ≤ 900000
theorem between_zero (l : Recs) : Between l 0 0 := ⟨fun j hj => by omega, fun _ _ _ => Nat.zero_le _, by omega⟩
theorem between_next {R : Pays} {l : Recs} (h : Told R l) {i : Nat} (hi : i < l.length) : Between l (i + 1) (l[i].1 + (l[i].2.pay.length + 12)) := by
  have hp := h.pos
  rw [List.pairwise_iff_getElem] at hp
  refine ⟨fun j hj hl => ?_, fun j hj hl => ?_, ?_⟩
  · by_cases e : j = i
    · subst e; omega
    · have := hp j i hl hi (by omega); omega
  · have := hp i j hi hl (by omega); omega
  · have := h.lt (List.getElem_mem hi)
    have := h.len (List.getElem_mem hi)
    omega
theorem next_told {R : Pays} {l : Recs} (h : Told R l) {i p : Nat} (hb : Between l i p) : nextL (csOf R) p ((csOf R).length - p / 4096) (p / 4096) = (l[i]?).map fun x => (x.2.pay, x.1, x.1 + (x.2.pay.length + 12)) := by
  rw [nextL_all h.wf, h.all, List.find?_map, find_at _ l i (fun j hj hl => by have := hb.lo j hj hl; simp only [Function.comp_apply, decide_eq_false_iff_not]; omega) (fun j hj hl => by have := hb.hi j hj hl; simp only [Function.comp_apply, decide_eq_true_eq]; exact this), Option.map_map]
  rfl
end Go.Proofs.YtamlhndibcafgaaGreatDoor
