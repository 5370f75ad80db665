/- Plain lists: entries in their order: where one stands, what lies between two versions, the last one up to a version. No program in sight. -/
import Derived.Test.YtamlhndibcafgaaGreatDoorIdx2
namespace Go.Proofs.YtamlhndibcafgaaGreatDoor

def aheadB (e : En) (h : Nat) (v : Int) : Bool := decide (e.h < h ∨ (e.h = h ∧ (e.v : Int) < v))
def lessB (a b : En) : Bool := decide (a.h < b.h ∨ (a.h = b.h ∧ (a.v < b.v ∨ (a.v = b.v ∧ a.p < b.p))))
def SortedE (l : List En) : Prop := l.Pairwise fun a b => lessB a b = true
theorem lessB_iff {a b : En} : lessB a b = true ↔ (a.h < b.h ∨ (a.h = b.h ∧ (a.v < b.v ∨ (a.v = b.v ∧ a.p < b.p)))) := by unfold lessB; exact decide_eq_true_iff
theorem aheadB_iff {e : En} {h : Nat} {v : Int} : aheadB e h v = true ↔ (e.h < h ∨ (e.h = h ∧ (e.v : Int) < v)) := by unfold aheadB; exact decide_eq_true_iff
theorem lessB_trans {a b c : En} (h1 : lessB a b = true) (h2 : lessB b c = true) : lessB a c = true := by
  rw [lessB_iff] at *; omega
theorem sorted_get {l : List En} (h : SortedE l) {i j : Nat} (hij : i < j) (hj : j < l.length) : lessB (l[i]'(by omega)) l[j] = true :=
  List.pairwise_iff_getElem.1 h i j (by omega) hj hij
theorem ahead_mono {l : List En} (hs : SortedE l) {i j h : Nat} {v : Int} (hij : i ≤ j) (hj : j < l.length) (ha : aheadB l[j] h v = true) : aheadB (l[i]'(by omega)) h v = true := by
  by_cases e : i = j
  · subst e; exact ha
  · have := sorted_get hs (i := i) (j := j) (by omega) hj
    rw [lessB_iff] at this; rw [aheadB_iff] at *; omega
/-- Where the first one is that is not ahead. -/
def searchE (l : List En) (h : Nat) (v : Int) : Nat := (l.takeWhile fun e => aheadB e h v).length
theorem takeWhile_len {α : Type} (p : α → Bool) (l : List α) (k : Nat) (hk : k ≤ l.length) (h1 : ∀ i (hi : i < k), p (l[i]'(by omega)) = true) (h2 : ∀ (hk : k < l.length), p l[k] = false) : (l.takeWhile p).length = k := by
  induction l generalizing k with
  | nil => simp at hk; simp [hk]
  | cons a l ih =>
    cases k with
    | zero =>
      have := h2 (by simp)
      simp at this
      simp [this]
    | succ k =>
      have h0 := h1 0 (by omega)
      simp at h0
      rw [List.takeWhile_cons, h0]
      simp only [if_true, List.length_cons, Nat.add_right_cancel_iff]
      exact ih k (by simpa using hk) (fun i hi => by have := h1 (i + 1) (by omega); simpa using this) (fun hk' => by have := h2 (by simp; omega); simpa using this)
theorem searchE_eq {l : List En} {h k : Nat} {v : Int} (hk : k ≤ l.length) (h1 : ∀ i (hi : i < k), aheadB (l[i]'(by omega)) h v = true) (h2 : ∀ (hk : k < l.length), aheadB l[k] h v = false) : searchE l h v = k :=
  takeWhile_len _ l k hk h1 h2
theorem takeWhile_le {α : Type} (p : α → Bool) (l : List α) : (l.takeWhile p).length ≤ l.length := by
  induction l with
  | nil => simp
  | cons a l ih => rw [List.takeWhile_cons]; split <;> simp; exact ih
theorem takeWhile_yes {α : Type} (p : α → Bool) (l : List α) (i : Nat) (hi : i < (l.takeWhile p).length) : p (l[i]'(Nat.lt_of_lt_of_le hi (takeWhile_le p l))) = true := by
  induction l generalizing i with
  | nil => simp at hi
  | cons a l ih =>
    rw [List.takeWhile_cons] at hi
    cases h : p a with
    | false => rw [h] at hi; simp at hi
    | true =>
      rw [h] at hi
      cases i with
      | zero => simpa using h
      | succ i => simp at hi; simpa using ih i hi
theorem takeWhile_no {α : Type} (p : α → Bool) (l : List α) (hi : (l.takeWhile p).length < l.length) : p l[(l.takeWhile p).length] = false := by
  induction l with
  | nil => simp at hi
  | cons a l ih =>
    cases h : p a with
    | false => simp [h]
    | true =>
      simp only [List.takeWhile_cons, h, if_true, List.length_cons] at hi ⊢
      simpa using ih (by omega)
theorem searchE_le (l : List En) (h : Nat) (v : Int) : searchE l h v ≤ l.length := takeWhile_le _ _
theorem searchE_yes {l : List En} {h i : Nat} {v : Int} (hi : i < searchE l h v) : aheadB (l[i]'(Nat.lt_of_lt_of_le hi (searchE_le l h v))) h v = true := takeWhile_yes _ l i hi
theorem searchE_no {l : List En} (hs : SortedE l) {h i : Nat} {v : Int} (hi : searchE l h v ≤ i) (hl : i < l.length) : aheadB l[i] h v = false := by
  cases hc : aheadB l[i] h v with
  | false => rfl
  | true =>
    have h1 := ahead_mono hs hi hl hc
    have h2 := takeWhile_no (fun e => aheadB e h v) l (by have : searchE l h v = (l.takeWhile fun e => aheadB e h v).length := rfl; omega)
    unfold searchE at h1
    rw [h1] at h2; cases h2

/-- Where an entry comes to stand. -/
def addAt (l : List En) (e : En) : Nat := (l.takeWhile fun x => lessB x e).length
theorem addAt_le (l : List En) (e : En) : addAt l e ≤ l.length := takeWhile_le _ _
theorem addAt_eq {l : List En} {e : En} {k : Nat} (hk : k ≤ l.length) (h1 : ∀ i (hi : i < k), lessB (l[i]'(by omega)) e = true) (h2 : ∀ (hk : k < l.length), lessB l[k] e = false) : addAt l e = k :=
  takeWhile_len _ l k hk h1 h2
theorem ahead_less {x e : En} (h : aheadB x e.h e.v = true) : lessB x e = true := by rw [aheadB_iff] at h; rw [lessB_iff]; omega
/-- The entries with one more. -/
def insE (l : List En) (e : En) : List En := l.take (addAt l e) ++ e :: l.drop (addAt l e)
theorem addAt_yes {l : List En} {e : En} {i : Nat} (hi : i < addAt l e) : lessB (l[i]'(Nat.lt_of_lt_of_le hi (addAt_le l e))) e = true := takeWhile_yes _ l i hi
theorem addAt_no {l : List En} {e : En} (hl : addAt l e < l.length) : lessB l[addAt l e] e = false := takeWhile_no (fun x => lessB x e) l hl
theorem less_total {a b : En} (h1 : lessB a b = false) (h2 : a ≠ b) : lessB b a = true := by
  rw [lessB_iff]
  have h3 : ¬ (lessB a b = true) := by rw [h1]; simp
  rw [lessB_iff] at h3
  by_cases e1 : a.h = b.h
  · by_cases e2 : a.v = b.v
    · by_cases e3 : a.p = b.p
      · exact absurd (by cases a; cases b; simp_all) h2
      · omega
    · omega
  · omega
theorem mem_insE {l : List En} {e x : En} : x ∈ insE l e ↔ x = e ∨ x ∈ l := by
  unfold insE
  rw [List.mem_append, List.mem_cons]
  constructor
  · rintro (h | h | h)
    · exact .inr (List.mem_of_mem_take h)
    · exact .inl h
    · exact .inr (List.mem_of_mem_drop h)
  · rintro (h | h)
    · exact .inr (.inl h)
    · rw [← List.take_append_drop (addAt l e) l, List.mem_append] at h
      rcases h with h | h
      · exact .inl h
      · exact .inr (.inr h)
theorem insE_length (l : List En) (e : En) : (insE l e).length = l.length + 1 := by
  unfold insE
  have := addAt_le l e
  simp [List.length_append, List.length_take, List.length_drop]; omega
theorem insE_sorted {l : List En} {e : En} (hs : SortedE l) (hn : e ∉ l) : SortedE (insE l e) := by
  unfold insE SortedE
  have hle := addAt_le l e
  rw [List.pairwise_append]
  refine ⟨hs.sublist (List.take_sublist _ _), ?_, ?_⟩
  · rw [List.pairwise_cons]
    refine ⟨fun x hx => ?_, hs.sublist (List.drop_sublist _ _)⟩
    obtain ⟨i, hi, rfl⟩ := List.mem_iff_getElem.1 hx
    rw [List.getElem_drop]
    have hi' : addAt l e + i < l.length := by simp at hi; omega
    have h0 := addAt_no (l := l) (e := e) (by omega)
    have h1 := less_total h0 (fun h => hn (h ▸ List.getElem_mem _))
    by_cases e0 : i = 0
    · subst e0; exact h1
    · exact lessB_trans h1 (sorted_get hs (by omega) hi')
  · intro a ha b hb
    obtain ⟨i, hi, rfl⟩ := List.mem_iff_getElem.1 ha
    rw [List.getElem_take]
    have hi' : i < addAt l e := by simp at hi; omega
    have h1 := addAt_yes hi'
    rcases List.mem_cons.1 hb with rfl | hb
    · exact h1
    · obtain ⟨j, hj, rfl⟩ := List.mem_iff_getElem.1 hb
      rw [List.getElem_drop]
      exact sorted_get hs (by omega) (by simp at hj; omega)

/-- The entries of a hash, of the versions from one up to another one. -/
def inB (h : Nat) (a b : Int) (e : En) : Bool := decide (e.h = h ∧ a ≤ (e.v : Int) ∧ (e.v : Int) ≤ b)
def rangeE (l : List En) (h : Nat) (a b : Int) : List En := l.filter (inB h a b)
theorem filter_piece {α : Type} (p : α → Bool) (l : List α) (i j : Nat) (hij : i ≤ j) (hj : j ≤ l.length) (h1 : ∀ k (hk : k < i), p (l[k]'(by omega)) = false) (h2 : ∀ k (_ : i ≤ k) (hk : k < j), p (l[k]'(by omega)) = true)
    (h3 : ∀ k (_ : j ≤ k) (hk : k < l.length), p l[k] = false) : l.filter p = (l.drop i).take (j - i) := by
  have e : l = l.take i ++ ((l.drop i).take (j - i) ++ l.drop j) := by
    rw [← List.append_assoc]
    have : l.take i ++ (l.drop i).take (j - i) = l.take j := by
      rw [show j = i + (j - i) by omega, List.take_add, show i + (j - i) - i = j - i by omega]
    rw [this, List.take_append_drop]
  have f1 : (l.take i).filter p = [] := by
    rw [List.filter_eq_nil_iff]
    intro a ha
    obtain ⟨k, hk, rfl⟩ := List.mem_iff_getElem.1 ha
    rw [List.getElem_take]
    have := h1 k (by simp at hk; omega)
    simp [this]
  have f2 : ((l.drop i).take (j - i)).filter p = (l.drop i).take (j - i) := by
    rw [List.filter_eq_self]
    intro a ha
    obtain ⟨k, hk, rfl⟩ := List.mem_iff_getElem.1 ha
    rw [List.getElem_take, List.getElem_drop]
    exact h2 (i + k) (by omega) (by simp at hk; omega)
  have f3 : (l.drop j).filter p = [] := by
    rw [List.filter_eq_nil_iff]
    intro a ha
    obtain ⟨k, hk, rfl⟩ := List.mem_iff_getElem.1 ha
    rw [List.getElem_drop]
    have := h3 (j + k) (by omega) (by simp at hk; omega)
    simp [this]
  conv => lhs; rw [e]
  rw [List.filter_append, List.filter_append, f1, f2, f3, List.append_nil, List.nil_append]
theorem rangeE_piece {l : List En} (hs : SortedE l) (h : Nat) (a b : Int) (j : Nat) (hj : j ≤ l.length) (hij : searchE l h a ≤ j) (h2 : ∀ k (_ : searchE l h a ≤ k) (hk : k < j), (l[k]'(by omega)).h = h ∧ ((l[k]'(by omega)).v : Int) ≤ b)
    (h3 : ∀ (hk : j < l.length), ¬ (l[j].h = h ∧ (l[j].v : Int) ≤ b)) : rangeE l h a b = (l.drop (searchE l h a)).take (j - searchE l h a) := by
  refine filter_piece _ l _ j hij hj (fun k hk => ?_) (fun k hk hk2 => ?_) (fun k hk hk2 => ?_)
  · have := searchE_yes hk
    rw [aheadB_iff] at this
    unfold inB; rw [decide_eq_false_iff_not]; omega
  · have h4 := searchE_no hs hk (by omega)
    have h5 : ¬ (aheadB (l[k]'(by omega)) h a = true) := by rw [h4]; simp
    rw [aheadB_iff] at h5
    have := h2 k hk hk2
    unfold inB; rw [decide_eq_true_iff]; omega
  · have h4 := searchE_no hs (Nat.le_trans hij hk) hk2
    have h5 : ¬ (aheadB l[k] h a = true) := by rw [h4]; simp
    rw [aheadB_iff] at h5
    have h6 := h3 (by omega)
    unfold inB; rw [decide_eq_false_iff_not]
    by_cases e : j = k
    · subst e; omega
    · have h7 := sorted_get hs (i := j) (j := k) (by omega) hk2
      have h8 := searchE_no hs hij (by omega : j < l.length)
      have h9 : ¬ (aheadB l[j] h a = true) := by rw [h8]; simp
      rw [aheadB_iff] at h9
      rw [lessB_iff] at h7
      omega
/-- The last version of a hash up to one. -/
def lastE (l : List En) (h : Nat) (b : Int) : Option En := (l.filter (inB h 0 b)).getLast?
theorem lastE_none {l : List En} {h : Nat} {b : Int} : lastE l h b = none ↔ ∀ e ∈ l, ¬ (e.h = h ∧ (e.v : Int) ≤ b) := by
  unfold lastE
  rw [List.getLast?_eq_none_iff, List.filter_eq_nil_iff]
  constructor
  · intro H e he hc
    exact H e he (by unfold inB; rw [decide_eq_true_iff]; omega)
  · intro H e he hc
    unfold inB at hc; rw [decide_eq_true_iff] at hc
    exact H e he ⟨hc.1, hc.2.2⟩
theorem lastE_at {l : List En} {h k : Nat} {b : Int} (hk : k < l.length) (h1 : l[k].h = h ∧ (l[k].v : Int) ≤ b) (h2 : ∀ j (_ : k < j) (hj : j < l.length), ¬ (l[j].h = h ∧ (l[j].v : Int) ≤ b)) : lastE l h b = some l[k] := by
  unfold lastE
  have e : l = l.take (k + 1) ++ l.drop (k + 1) := (List.take_append_drop _ _).symm
  have f3 : (l.drop (k + 1)).filter (inB h 0 b) = [] := by
    rw [List.filter_eq_nil_iff]
    intro a ha
    obtain ⟨m, hm, rfl⟩ := List.mem_iff_getElem.1 ha
    rw [List.getElem_drop]
    intro hc
    unfold inB at hc; rw [decide_eq_true_iff] at hc
    exact h2 (k + 1 + m) (by omega) (by simp at hm; omega) ⟨hc.1, hc.2.2⟩
  have f4 : inB h 0 b l[k] = true := by unfold inB; rw [decide_eq_true_iff]; omega
  conv => lhs; rw [e]
  rw [List.filter_append, f3, List.append_nil, List.take_succ_eq_append_getElem hk, List.filter_append, List.filter_cons, f4]
  simp
end Go.Proofs.YtamlhndibcafgaaGreatDoor
