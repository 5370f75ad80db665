/- Plain lists and numbers: the big-endian bytes of a number, CRC-32, texts with their lengths ahead. No program in sight. -/
import Derived.Laws.BitsAllLaws
namespace Go.Proofs.YtamlhndibcafgaaGreatDoor

/-- The number of bytes, the highest first. -/
def beN (l : List UInt8) : Nat := l.foldl (fun n c => n * 256 + c.toNat) 0
theorem beN_snoc (l : List UInt8) (c : UInt8) : beN (l ++ [c]) = beN l * 256 + c.toNat := by simp [beN]
theorem beN_fold (l : List UInt8) : ∀ n, l.foldl (fun n c => n * 256 + c.toNat) n < (n + 1) * 256 ^ l.length := by
  induction l with
  | nil => intro n; simp
  | cons c l ih =>
    intro n
    have := c.toNat_lt
    have h := ih (n * 256 + c.toNat)
    have h2 : (n * 256 + c.toNat + 1) * 256 ^ l.length ≤ (n + 1) * 256 * 256 ^ l.length := Nat.mul_le_mul_right _ (by omega)
    rw [List.foldl_cons, List.length_cons, Nat.pow_succ, Nat.mul_comm (256 ^ l.length), ← Nat.mul_assoc]; omega
theorem beN_lt (l : List UInt8) : beN l < 256 ^ l.length := by have := beN_fold l 0; simpa [beN] using this
theorem beN_take_lt (l : List UInt8) (k : Nat) (hk : k < 8) : beN (l.take k) < 72057594037927936 := by
  have h := beN_lt (l.take k)
  have h2 : (l.take k).length ≤ 7 := by have := List.length_take_le k l; omega
  have h3 : 256 ^ (l.take k).length ≤ 256 ^ 7 := Nat.pow_le_pow_right (by omega) h2
  omega
theorem beN_take8_lt (l : List UInt8) : beN (l.take 8) < 18446744073709551616 := by
  have h := beN_lt (l.take 8)
  have h2 : (l.take 8).length ≤ 8 := by have := List.length_take_le 8 l; omega
  have h3 : 256 ^ (l.take 8).length ≤ 256 ^ 8 := Nat.pow_le_pow_right (by omega) h2
  omega

/-- The k bytes of a number, the highest first. -/
def be : Nat → Nat → List UInt8
  | 0, _ => []
  | k + 1, n => be k (n / 256) ++ [UInt8.ofNat (n % 256)]
@[simp] theorem be_length (k : Nat) : ∀ n, (be k n).length = k := by
  induction k with
  | zero => intro n; rfl
  | succ k ih => intro n; simp [be, ih]
theorem be_getElem (k : Nat) : ∀ (n j : Nat) (_ : j < k), (be k n)[j]? = some (UInt8.ofNat (n / 256 ^ (k - 1 - j) % 256)) := by
  induction k with
  | zero => intro n j h; omega
  | succ k ih =>
    intro n j h
    rw [be, List.getElem?_append]
    by_cases hj : j < k
    · rw [if_pos (by rw [be_length]; exact hj), ih _ _ hj, Nat.div_div_eq_div_mul]
      have : 256 * 256 ^ (k - 1 - j) = 256 ^ (k + 1 - 1 - j) := by
        rw [← Nat.pow_succ']; congr 1; omega
      rw [this]
    · have : j = k := by omega
      subst this
      rw [if_neg (by rw [be_length]; omega), be_length]; simp
theorem beN_be (k : Nat) : ∀ n, beN (be k n) = n % 256 ^ k := by
  induction k with
  | zero => intro n; simp [be, beN, Nat.mod_one]
  | succ k ih =>
    intro n
    rw [be, beN_snoc, ih, show (UInt8.ofNat (n % 256)).toNat = n % 256 by simp, Nat.pow_succ, Nat.mul_comm (256 ^ k) 256, Nat.mod_mul]
    omega
theorem be_beN (l : List UInt8) : ∀ k, l.length = k → be k (beN l) = l := by
  intro k hk
  induction k generalizing l with
  | zero => have := List.eq_nil_of_length_eq_zero hk; subst this; rfl
  | succ k ih =>
    obtain ⟨l0, c, rfl⟩ : ∃ l0 c, l = l0 ++ [c] := ⟨l.dropLast, l.getLast (by intro h; simp [h] at hk), (List.dropLast_concat_getLast _).symm⟩
    have hl0 : l0.length = k := by simpa using hk
    have hc := c.toNat_lt
    rw [be, beN_snoc, show (beN l0 * 256 + c.toNat) / 256 = beN l0 by omega, show (beN l0 * 256 + c.toNat) % 256 = c.toNat by omega, ih l0 hl0]
    simp

/-- One bit's step of CRC-32, and a byte's. -/
def crcBit (s : Nat) : Nat := (s / 2) ^^^ (if s % 2 = 1 then 3988292384 else 0)
def crcBits : Nat → Nat → Nat
  | 0, s => s
  | k + 1, s => crcBits k (crcBit s)
theorem crcBits_succ (k : Nat) : ∀ s, crcBits (k + 1) s = crcBit (crcBits k s) := by
  induction k with
  | zero => intro s; rfl
  | succ k ih => intro s; rw [crcBits, ih]; rfl
def crcByte (s : Nat) (c : UInt8) : Nat := crcBits 8 (s ^^^ c.toNat)
def crcMore (sum : Nat) (l : List UInt8) : Nat := (l.foldl crcByte (sum ^^^ 4294967295)) ^^^ 4294967295
def crc (l : List UInt8) : Nat := crcMore 0 l
theorem crcBit_lt (s : Nat) (h : s < 4294967296) : crcBit s < 4294967296 := by
  unfold crcBit
  exact Nat.xor_lt_two_pow (n := 32) (by omega) (by split <;> omega)
theorem crcBits_lt (k : Nat) : ∀ s, s < 4294967296 → crcBits k s < 4294967296 := by
  induction k with
  | zero => intro s h; exact h
  | succ k ih => intro s h; exact ih _ (crcBit_lt s h)
theorem crcByte_lt (s : Nat) (c : UInt8) (h : s < 4294967296) : crcByte s c < 4294967296 :=
  crcBits_lt 8 _ (Nat.xor_lt_two_pow (n := 32) h (by have := c.toNat_lt; omega))
theorem crcFold_lt (l : List UInt8) : ∀ s, s < 4294967296 → l.foldl crcByte s < 4294967296 := by
  induction l with
  | nil => intro s h; exact h
  | cons c l ih => intro s h; exact ih _ (crcByte_lt s c h)
theorem crcMore_lt (sum : Nat) (l : List UInt8) (h : sum < 4294967296) : crcMore sum l < 4294967296 :=
  Nat.xor_lt_two_pow (n := 32) (crcFold_lt l _ (Nat.xor_lt_two_pow (n := 32) h (by omega))) (by omega)
theorem crc_lt (l : List UInt8) : crc l < 4294967296 := crcMore_lt 0 l (by omega)
/-- A sum's bytes, the lowest first. -/
def crcLow (n : Nat) : List UInt8 := (be 4 n).reverse
def sealL (l : List UInt8) : List UInt8 := l ++ crcLow (crc l)
@[simp] theorem crcLow_length (n : Nat) : (crcLow n).length = 4 := by simp [crcLow, be_length]
@[simp] theorem sealL_length (l : List UInt8) : (sealL l).length = l.length + 4 := by simp [sealL, crcLow_length]
def openL (l : List UInt8) : Option (List UInt8) :=
  if l.length < 4 then none else if crcLow (crc (l.take (l.length - 4))) = l.drop (l.length - 4) then some (l.take (l.length - 4)) else none
theorem openL_seal (l : List UInt8) : openL (sealL l) = some l := by
  unfold openL
  rw [if_neg (by rw [sealL_length]; omega)]
  have h1 : (sealL l).take ((sealL l).length - 4) = l := by rw [sealL_length]; simp [sealL]
  have h2 : (sealL l).drop ((sealL l).length - 4) = crcLow (crc l) := by rw [sealL_length]; simp [sealL]
  rw [h1, h2, if_pos rfl]
theorem openL_some {l t : List UInt8} (h : openL l = some t) : l = sealL t := by
  unfold openL at h
  split at h
  · cases h
  · split at h
    · rename_i h1 h2
      obtain rfl := Option.some.inj h
      rw [sealL, h2, List.take_append_drop]
    · cases h

/-- A text with its length ahead. -/
def textL (l : List UInt8) : List UInt8 := if l.length > 65535 then [] else be 2 l.length ++ l
theorem textL_le (l : List UInt8) : (textL l).length ≤ l.length + 2 := by
  unfold textL; split <;> simp <;> omega
theorem textL_of (l : List UInt8) (h : l.length ≤ 65535) : textL l = be 2 l.length ++ l := by unfold textL; rw [if_neg (by omega)]
def readL (l : List UInt8) : Option (List UInt8 × List UInt8) :=
  if l.length < 2 then none
  else if l.length - 2 < beN (l.take 2) then none
  else some ((l.drop 2).take (beN (l.take 2)), (l.drop 2).drop (beN (l.take 2)))

theorem ushape (x y : Nat) : (x ^^^ y) / 2 = (x / 2) ^^^ (y / 2) := by
  have h := Nat.shiftRight_xor_distrib (a := x) (b := y) (i := 1)
  simpa [Nat.shiftRight_eq_div_pow] using h

/-- An event: its type, its data, the bits of its weight. -/
structure Ev where
  ty : List UInt8
  da : List UInt8
  wt : Nat
def checkE (e : Ev) : Nat := if e.ty = [] then 2 else if 16 < e.ty.length ∨ 200 < e.da.length then 3 else 0
def bytesE (e : Ev) : List UInt8 := if checkE e = 0 then textL e.ty ++ textL e.da ++ be 8 e.wt else []
def readE (s : List UInt8) : Option (Ev × List UInt8) :=
  match readL s with
  | none => none
  | some (ty, r1) =>
    match readL r1 with
    | none => none
    | some (da, r2) => if r2.length < 8 then none else if checkE ⟨ty, da, beN (r2.take 8)⟩ = 0 then some (⟨ty, da, beN (r2.take 8)⟩, r2.drop 8) else none
/-- May a stream have this name? -/
def streamB (l : List UInt8) : Bool := decide (l ≠ [] ∧ l.length ≤ 32)

/-- An event, where it stands. -/
structure Tl where
  st : List UInt8
  ver : Nat
  ev : Ev
def cnt (l : List Tl) (st : List UInt8) : Nat := (l.filter fun t => t.st == st).length
theorem cnt_snoc (l : List Tl) (t : Tl) (st : List UInt8) : cnt (l ++ [t]) st = cnt l st + if st = t.st then 1 else 0 := by
  unfold cnt
  rw [List.filter_append, List.length_append]
  by_cases h : st = t.st
  · subst h; simp
  · have : (t.st == st) = false := by rw [beq_eq_false_iff_ne]; exact fun e => h e.symm
    simp [this, h]
theorem cnt_le (l : List Tl) (st : List UInt8) : cnt l st ≤ l.length := List.length_filter_le _ _
/-- n events out of a text, behind those that are there. -/
def getN : Nat → List Tl → List UInt8 → Option (List Tl × List UInt8)
  | 0, l, r => some (l, r)
  | n + 1, l, r =>
    match readL r with
    | none => none
    | some (st, r1) =>
      match readE r1 with
      | none => none
      | some (x, r2) => if streamB st = true ∧ l.length ≠ 1000 then getN n (l ++ [⟨st, cnt l st, x⟩]) r2 else none
def markL : List UInt8 := [97, 110, 110, 97, 108, 105, 115, 116, 10]
def getFin : Option (List Tl × List UInt8) → Option (List Tl)
  | some (l, []) => some l
  | _ => none
/-- The events of a copy's text. -/
def getC (s : List UInt8) : Option (List Tl) :=
  match openL s with
  | none => none
  | some t =>
    if t.take 9 = markL ∧ 4 ≤ (t.drop 9).length then
      getFin (getN (beN ((t.drop 9).take 4)) [] ((t.drop 9).drop 4))
    else none

theorem getN_succ (n : Nat) (l : List Tl) (r st r1 r2 : List UInt8) (x : Ev) (h1 : readL r = some (st, r1)) (h2 : readE r1 = some (x, r2)) (h3 : streamB st = true) (h4 : l.length ≠ 1000) :
    getN (n + 1) l r = getN n (l ++ [⟨st, cnt l st, x⟩]) r2 := by
  rw [getN, h1]; dsimp only; rw [h2]; dsimp only; rw [if_pos ⟨h3, h4⟩]
theorem getN_no1 (n : Nat) (l : List Tl) (r : List UInt8) (h1 : readL r = none) : getN (n + 1) l r = none := by rw [getN, h1]
theorem getN_no2 (n : Nat) (l : List Tl) (r st r1 : List UInt8) (h1 : readL r = some (st, r1)) (h2 : readE r1 = none) : getN (n + 1) l r = none := by
  rw [getN, h1]; dsimp only; rw [h2]
theorem getN_no3 (n : Nat) (l : List Tl) (r st r1 r2 : List UInt8) (x : Ev) (h1 : readL r = some (st, r1)) (h2 : readE r1 = some (x, r2)) (h3 : streamB st = false ∨ l.length = 1000) :
    getN (n + 1) l r = none := by
  rw [getN, h1]; dsimp only; rw [h2]; dsimp only; rw [if_neg]
  rintro ⟨a, b⟩
  rcases h3 with h3 | h3
  · rw [h3] at a; cases a
  · exact b h3
theorem readE_nil : readE [] = none := by simp [readE, readL]
end Go.Proofs.YtamlhndibcafgaaGreatDoor
