/- Contracts of package batches: head, Get, of what was put. -/
import Derived.Test.YtamlhndibcafgaaGreatDoorBatchP
import Derived.Test.YtamlhndibcafgaaGreatDoorCopGet
import Derived.Deep.AppendLies
import Derived.Laws.OwnMore
namespace Go.Proofs.YtamlhndibcafgaaGreatDoor
open Go.RowKit Go.MapKept

set_option maxRecDepth 100000 in
set_option maxHeartbeats 1000000 in
theorem batches_head (st : List UInt8) (first n : Nat) (r : List UInt8) (w : World) (h1 : st.length ≤ 32) (hf : first ≤ 1073741824) (hn : n < 256) (hr : r.length ≤ 1048576) :
    Calls Tryz.prog 134 #[.string ⟨(textL st ++ (be 8 first ++ (be 1 n ++ r))).toArray⟩] w fun e w' =>
      e = .returned (.tuple #[.agg #[.string ⟨st.toArray⟩, .int .i64 first, .slice none 0 0], .int .i64 n, .string ⟨r.toArray⟩, .bool true]) ∧ Below w.heap.size w w' := by
  have htl := textL_length st (by omega)
  have hb0 := (Below.refl w.heap.size w).alloc (Nat.le_refl _) (.cells #[.string ⟨#[]⟩, .int .i64 0, .slice none 0 0] 132)
  obtain ⟨q, hq⟩ : ∃ q, be 8 first ++ (be 1 n ++ r) = q := ⟨_, rfl⟩
  rw [hq]
  have hql : q.length = r.length + 9 := by rw [← hq]; simp; omega
  have h8 : q.take 8 = be 8 first := by rw [← hq, List.take_append_of_le_length (by simp), List.take_of_length_le (by simp)]
  have h9 : q.drop 9 = r := by
    rw [← hq, ← List.append_assoc, List.drop_append_of_le_length (by simp), List.drop_of_length_le (by simp), List.nil_append]
  have hq8 : q[8]? = some (UInt8.ofNat n) := by
    rw [← hq, List.getElem?_append_right (by simp)]
    simp [be, Nat.mod_eq_of_lt hn]
  have HR := Lib.hid (fun w' => nums_Read_some (textL st ++ q) st q w' (by unfold maxLen; simp; omega) (readL_text st q (by omega)))
  have HG := Lib.hid (fun w' => nums_Get (be 8 first) w' (by simp [maxLen]))
  have H8 := Lib.hid h8
  have H9 := Lib.hid h9
  have HQ8 := Lib.hid hq8
  clear hq h8 h9 hq8
  have hn8 : n % 256 = n := Nat.mod_eq_of_lt hn
  go_enter Tryz.func134, Tryz.ntmps134
  go_wp2_with fail
  refine (HR.out _).mono ?_
  rintro e w1 ⟨rfl, hb1⟩
  have hk := blk_after hb1
  have HB1 := Lib.hid (below_after hb1)
  have p_c0 : World.cell? w1 ⟨w.heap.size, 0, none⟩ = some (.string ⟨#[]⟩) := by rw [cell_of_block hk]; rfl
  have p_f0 : World.frozen? w1 ⟨w.heap.size, 0, none⟩ = false := frozen_of_block hk
  have p_c1 : World.cell? w1 ⟨w.heap.size, 1, none⟩ = some (.int .i64 0) := by rw [cell_of_block hk]; rfl
  have p_f1 : World.frozen? w1 ⟨w.heap.size, 1, none⟩ = false := frozen_of_block hk
  have p_c2 : World.cell? w1 ⟨w.heap.size, 2, none⟩ = some (.slice none 0 0) := by rw [cell_of_block hk]; rfl
  have p_f2 : World.frozen? w1 ⟨w.heap.size, 2, none⟩ = false := frozen_of_block hk
  have HK := Lib.hid hk
  clear hb1 hb0 hk
  go_wp2_with fail
  rw [H8.out]
  refine (HG.out _).mono ?_
  rintro e w2 ⟨rfl, rfl⟩
  have hbe : beN (List.take 8 (be 8 first)) = first := by rw [List.take_of_length_le (by simp)]; exact beN_be_lt _ _ (by omega)
  rw [hbe]
  clear hbe
  have h80 : 8 < q.length := by omega
  have hq8' : q[8] = UInt8.ofNat n := by have := HQ8.out; rw [List.getElem?_eq_getElem h80] at this; exact Option.some.inj this
  have hnt : (UInt8.ofNat n).toNat = n := by simp [hn8]
  go_wp2_with fail
  go_region
  go_wp2_with fail
  exact bodyPost_ret (v := .tuple #[.agg #[.string ⟨st.toArray⟩, .int .i64 first, .slice none 0 0], .int .i64 n, .string ⟨r.toArray⟩, .bool true]) (by simp [results, Tryz.results134, go_sem, p_c0, p_c1, p_c2, H9.out]) rfl ⟨rfl, (below_set3 HB1.out _ _ _).drew⟩
theorem block_far {w : World} {b : Nat} {o : Obj} (h : w.heap[b]? = some o) {p : Addr} (hp : b ≠ p.block) (v : Value) : (w.setCell p v).heap[b]? = some o := (Below.heap_setCell w p v b hp).trans h
/-- A store ahead of all rows. -/
theorem ownsRow_far {w : World} {base : Nat} {e : TypeId} {size : Nat} {v : Value} {n : Nat} {xs : List Value} (h : w.ownsRow base e size v n xs) {b i : Nat} (hb : b < base) {u : Value} : (w.setCell ⟨b, i, none⟩ u).ownsRow base e size v n xs := by
  refine ⟨h.1, ?_⟩
  rcases h.2 with h2 | ⟨g, cap, cur, h1, h3, h4, h5⟩
  · exact .inl h2
  · exact .inr ⟨g, cap, cur, h1, h3, block_far h4 (by simp; omega) _, h5⟩
/-- Events as cells. -/
def Ev.cells (e : Ev) : List Value := [.string ⟨e.ty.toArray⟩, .string ⟨e.da.toArray⟩, .float .f64 e.wt]
def evCells (l : List Ev) : List Value := l.flatMap Ev.cells
theorem evCells_snoc (l : List Ev) (t : Ev) : evCells (l ++ [t]) = evCells l ++ t.cells := by simp [evCells]
theorem Tryz.infoEvent : (Tryz.prog.info? 77).map (fun i => (i.zero, i.size, i.bytes)) = some (some (.agg #[.string ⟨#[]⟩, .string ⟨#[]⟩, .float .f64 0]), 3, 40) := by kernel_rfl
/-- A batch that was read: its text, its number, its events in a row of their own. -/
def GotB (st : List UInt8) (first : Nat) (l : List Ev) (w : World) (e : Ending) (w' : World) : Prop :=
  ∃ v, e = .returned (.tuple #[.agg #[.string ⟨st.toArray⟩, .int .i64 first, v], .int .i64 0]) ∧ w'.ownsRow w.heap.size 77 3 v l.length (evCells l) ∧ Below w.heap.size w w'
/-- At the loop's head: R the result's block, B the batch's. -/
def GetBRel (w : World) (B : Nat) (st : List UInt8) (first : Nat) (l : List Ev) (rest ok : Value) (wr : World) : Prop :=
  ∃ (k : Nat) (v : Value), k ≤ l.length ∧ rest = .string ⟨(evsL (l.drop k)).toArray⟩ ∧ ok = .bool true ∧ wr.heap[B]? = some (.cells #[.string ⟨st.toArray⟩, .int .i64 first, v] 132) ∧
    wr.ownsRow (B + 1) 77 3 v k (evCells (l.take k)) ∧ Below w.heap.size w wr ∧ wr.heap[w.heap.size]? = some (.cells #[.string ⟨#[]⟩, .int .i64 0, .slice none 0 0] 132)
theorem flat_get {α β : Type} (f : α → List β) (m : Nat) (hf : ∀ a, (f a).length = m) : ∀ (l : List α) (i j : Nat) (hi : i < l.length), j < m → (l.flatMap f)[i * m + j]? = (f l[i])[j]? := by
  intro l
  induction l with
  | nil => intro i j hi; simp at hi
  | cons a l ih =>
    intro i j hi hj
    rw [List.flatMap_cons]
    cases i with
    | zero => rw [List.getElem?_append_left (by rw [hf]; omega)]; simp
    | succ i =>
      have e : (i + 1) * m + j = m + (i * m + j) := by rw [Nat.add_mul]; omega
      rw [List.getElem?_append_right (by rw [hf]; omega), hf, e, Nat.add_sub_cancel_left]
      exact ih i j (by simpa using hi) hj
theorem evsAt_of_row {w : World} {base : Nat} {v : Value} {l : List Ev} (h : w.ownsRow base 77 3 v l.length (evCells l)) (h0 : l ≠ []) (hl : l.length ≤ 1000000) : EvsAt w v l := by
  have hp : 0 < l.length := List.length_pos_iff.2 h0
  obtain ⟨g, cap, rfl, -, hg⟩ := h.form hp
  refine ⟨g, 0, cap, rfl, hg, hl, fun i hi => ?_⟩
  have c := fun j (hj : j < 3) => (h.cellAt (i * 3 + j) (by omega)).trans (flat_get Ev.cells 3 (fun _ => rfl) l i j hi hj)
  have c0 := c 0 (by omega)
  have c1 := c 1 (by omega)
  have c2 := c 2 (by omega)
  refine ⟨?_, ?_, ?_⟩
  · rw [Nat.zero_add]; exact c0
  · rw [Nat.zero_add]; exact c1
  · rw [Nat.zero_add]; exact c2
set_option maxRecDepth 100000 in
set_option maxHeartbeats 2000000 in
theorem batches_Get (st : List UInt8) (first : Nat) (l : List Ev) (w : World) (h1 : st ≠ []) (h2 : l ≠ []) (h3 : st.length ≤ 32) (h4 : l.length ≤ 8) (h5 : first + l.length ≤ 1073741824) (hok : ∀ e ∈ l, EvOk e) :
    Calls Tryz.prog 94 #[.string ⟨(putB st first l).toArray⟩] w (GotB st first l w) := by
  rw [putB_eq]
  have hel := evsL_le l
  have HH := Lib.hid (fun w' => batches_head st first l.length (evsL l) w' h3 (by omega) (by omega) (by omega))
  obtain ⟨s, hs⟩ : ∃ s, textL st ++ (be 8 first ++ (be 1 l.length ++ evsL l)) = s := ⟨_, rfl⟩
  rw [hs] at HH ⊢
  have HOK := Lib.hid hok
  have H1 := Lib.hid h1
  have H2 := Lib.hid h2
  have H5 := Lib.hid h5
  clear hs hok h1 h2
  go_enter Tryz.func94, Tryz.ntmps94
  go_wp2_with fail
  refine (HH.out _).mono ?_
  rintro e w1 ⟨rfl, hb1⟩
  have HR1 := Lib.hid (blk_after hb1)
  have HB1 := Lib.hid (below_after hb1)
  have hsz1 := size_after hb1
  clear hb1
  go_wp2_with fail
  go_loopw [6, 7] (fun rest ok wr => GetBRel w w1.heap.size st first l rest ok wr) (fun rest _ _ => match rest with | .string b => b.size | _ => 0)
  case atStart =>
    exact ⟨0, .slice none 0 0, by omega, rfl, rfl, heap_alloc_new _ _, World.ownsRow_nil _ _ _ _, HB1.out.alloc (Nat.le_of_lt hsz1) _, blk_alloc HR1.out⟩
  case round =>
    obtain ⟨k, v, hk, rfl, rfl, hblk, hown, hB, hres⟩ := hrel
    obtain ⟨a0, cap0, rfl⟩ := ownsRow_slice hown
    have HBLK := Lib.hid hblk
    have HB := Lib.hid hB
    have HRES := Lib.hid hres
    have HOWN := Lib.hid hown
    have p_c0 : World.cell? wr ⟨w1.heap.size, 0, none⟩ = some (.string ⟨st.toArray⟩) := by rw [cell_of_block hblk]; rfl
    have p_f0 : World.frozen? wr ⟨w1.heap.size, 0, none⟩ = false := frozen_of_block hblk
    have p_c1 : World.cell? wr ⟨w1.heap.size, 1, none⟩ = some (.int .i64 first) := by rw [cell_of_block hblk]; rfl
    have p_f1 : World.frozen? wr ⟨w1.heap.size, 1, none⟩ = false := frozen_of_block hblk
    have p_c2 : World.cell? wr ⟨w1.heap.size, 2, none⟩ = some (.slice a0 k cap0) := by rw [cell_of_block hblk]; rfl
    have p_f2 : World.frozen? wr ⟨w1.heap.size, 2, none⟩ = false := frozen_of_block hblk
    have hltB := blk_lt hblk
    clear hblk hB hres hown
    by_cases hlt : k < l.length
    · obtain ⟨x, hx⟩ : ∃ x, l[k] = x := ⟨_, rfl⟩
      have hxo := HOK.out x (by rw [← hx]; exact List.getElem_mem hlt)
      have hxl := hxo.len
      have hrd := readE_bytes x (evsL (l.drop (k + 1))) hxo.1 hxo.2
      have hdr : evsL (l.drop k) = bytesE x ++ evsL (l.drop (k + 1)) := by rw [List.drop_eq_getElem_cons hlt, hx, evsL_cons]
      rw [← hdr] at hrd
      have hle := evsL_le (l.drop k)
      have hle2 : (l.drop k).length ≤ 8 := by rw [List.length_drop]; omega
      have hbl : 0 < (bytesE x).length := by rw [bytesE, if_pos hxo.1]; simp; omega
      have hmeas : (evsL (l.drop (k + 1))).length < (evsL (l.drop k)).length := by rw [hdr, List.length_append]; omega
      have HM := Lib.hid hmeas
      obtain ⟨s0, hs0⟩ : ∃ s0, evsL (l.drop k) = s0 := ⟨_, rfl⟩
      obtain ⟨s1, hs1⟩ : ∃ s1, evsL (l.drop (k + 1)) = s1 := ⟨_, rfl⟩
      rw [hs0] at hrd hle HM ⊢
      rw [hs1] at hrd HM
      have HS1 := Lib.hid hs1
      have hkl : (k : Int) < l.length := by omega
      have HRD := Lib.hid (fun w' => events_Read_some s0 x s1 w' (by unfold maxLen; omega) hrd)
      have HX := Lib.hid hx
      clear hxo hrd hdr hbl hmeas hs0 hs1 hx p_c0 p_c1 p_f0 p_f1 hel
      go_wp2_with fail
      refine (HRD.out _).mono ?_
      rintro e w2 ⟨rfl, hb2⟩
      have HXB := Lib.hid (blk_after hb2)
      have HB2 := Lib.hid (below_after hb2)
      have hsz2 := size_after hb2
      clear hb2
      have HBLK2 := Lib.hid (blk_kept HB2.out HBLK.out)
      have HOWN2 := Lib.hid (ownsRow_below HOWN.out (below_set3 HB2.out (.string ⟨x.ty.toArray⟩) (.string ⟨x.da.toArray⟩) (.float .f64 x.wt)))
      have HB3 := Lib.hid (HB.out.trans ((below_set3 HB2.out (.string ⟨x.ty.toArray⟩) (.string ⟨x.da.toArray⟩) (.float .f64 x.wt)).mono HB.out.size))
      unfold Ev.val
      have q_c0 : World.cell? w2 ⟨wr.heap.size, 0, none⟩ = some (.string ⟨#[]⟩) := by rw [cell_of_block HXB.out]; rfl
      have q_f0 : World.frozen? w2 ⟨wr.heap.size, 0, none⟩ = false := frozen_of_block HXB.out
      have q_c1 : World.cell? w2 ⟨wr.heap.size, 1, none⟩ = some (.string ⟨#[]⟩) := by rw [cell_of_block HXB.out]; rfl
      have q_f1 : World.frozen? w2 ⟨wr.heap.size, 1, none⟩ = false := frozen_of_block HXB.out
      have q_c2 : World.cell? w2 ⟨wr.heap.size, 2, none⟩ = some (.float .f64 0) := by rw [cell_of_block HXB.out]; rfl
      have q_f2 : World.frozen? w2 ⟨wr.heap.size, 2, none⟩ = false := frozen_of_block HXB.out
      clear p_c2 p_f2
      have p_c2 : w2.cell? ⟨w1.heap.size, 2, none⟩ = some (.slice a0 k cap0) := by rw [cell_of_block HBLK2.out]; rfl
      obtain ⟨i0, hi, hz0, hz1, hz2⟩ := info_parts Tryz.infoEvent
      have I0 := Lib.hid hi; have I1 := Lib.hid hz0; have I2 := Lib.hid hz1; have I3 := Lib.hid hz2
      clear hi hz0 hz1 hz2
      go_wp2_with (at_builtin; refine wpList_append_own _ rfl _ _ 40 rfl (w1.heap.size + 1) 77 i0 _ 3 40 Tryz.underlying40 I0.out I1.out I2.out I3.out rfl (by decide) _ _ _ rfl (HOWN2.out.alloc _) ⟨w2.heap.size, 0, none⟩ 1 1 x.cells rfl rfl ?c1 ?c2 ?c3 ?c4 ?c5 ?_)
      case c1 => exact news_alloc (by simp) x.cells 77
      case c2 => intro u hu; simp only [Ev.cells, List.mem_cons, List.mem_nil_iff, or_false] at hu; rcases hu with rfl | rfl | rfl <;> rfl
      case c3 => unfold maxLen; omega
      case c4 => omega
      case c5 => simp; omega
      intro v5 w5 hown5 hgrow5 _
      have hblk5 : w5.heap[w1.heap.size]? = some (.cells #[.string ⟨st.toArray⟩, .int .i64 first, .slice a0 k cap0] 132) := by
        rw [hgrow5.block _ (by simp; omega) ?_]
        · exact blk_alloc (block_far (block_far (block_far HBLK2.out (by simp; omega) _) (by simp; omega) _) (by simp; omega) _)
        · intro e
          have := (World.ownsRow.lt HOWN2.out _ e.symm).1
          omega
      have hres5 : w5.heap[w.heap.size]? = some (.cells #[.string ⟨#[]⟩, .int .i64 0, .slice none 0 0] 132) := by
        rw [hgrow5.block _ (by simp; omega) ?_]
        · exact blk_alloc (block_far (block_far (block_far (blk_kept HB2.out HRES.out) (by simp; omega) _) (by simp; omega) _) (by simp; omega) _)
        · intro e
          have := (World.ownsRow.lt HOWN2.out _ e.symm).1
          omega
      have hb5 : Below w.heap.size w w5 := by
        refine (HB3.out.alloc HB3.out.size _).grown hgrow5 (by simp; omega) (fun j hj => ?_)
        have := (World.ownsRow.lt HOWN2.out _ hj).1
        omega
      have r_c0 : World.cell? w5 ⟨w1.heap.size, 0, none⟩ = some (.string ⟨st.toArray⟩) := by rw [cell_of_block hblk5]; rfl
      have r_f0 : World.frozen? w5 ⟨w1.heap.size, 0, none⟩ = false := frozen_of_block hblk5
      have r_c1 : World.cell? w5 ⟨w1.heap.size, 1, none⟩ = some (.int .i64 first) := by rw [cell_of_block hblk5]; rfl
      have r_f1 : World.frozen? w5 ⟨w1.heap.size, 1, none⟩ = false := frozen_of_block hblk5
      have r_c2 : World.cell? w5 ⟨w1.heap.size, 2, none⟩ = some (.slice a0 k cap0) := by rw [cell_of_block hblk5]; rfl
      have r_f2 : World.frozen? w5 ⟨w1.heap.size, 2, none⟩ = false := frozen_of_block hblk5
      have HBLK5 := Lib.hid hblk5
      have HRES5 := Lib.hid hres5
      have HB5 := Lib.hid hb5
      have HOWN5 := Lib.hid hown5
      clear hblk5 hres5 hb5 hown5 hgrow5 q_c0 q_c1 q_c2 q_f0 q_f1 q_f2 p_c2
      obtain ⟨a5, cap5, rfl⟩ := ownsRow_slice HOWN5.out
      go_wp2_with fail
      go_roundw
      case rel =>
        refine ⟨k + 1, .slice a5 (k + 1) cap5, by omega, by rw [HS1.out], rfl, block_setCell HBLK5.out _, ?_, HB5.out.setCell (by simp; omega) _, ?_⟩
        · have e : evCells (l.take (k + 1)) = evCells (l.take k) ++ x.cells := by rw [List.take_succ_eq_append_getElem hlt, HX.out, evCells_snoc]
          rw [e]
          exact ownsRow_far HOWN5.out (by omega)
        · exact block_far HRES5.out (by simp; omega) _
      case measure => simp; exact HM.out
    · obtain rfl : k = l.length := by omega
      have hz : evsL (l.drop l.length) = [] := by rw [List.drop_length]; rfl
      rw [hz]
      rw [List.take_length] at HOWN
      have hne : ¬ (l.length : Int) < l.length := by omega
      have hev := evsAt_of_row HOWN.out H2.out (by omega)
      have hck := batches_Check_in st first l (.slice a0 l.length cap0) wr hev H1.out H2.out h3 h4 H5.out (fun e he => by have := (HOK.out e he).len; omega)
      rw [firstBad_zero.2 (fun e he => (HOK.out e he).1)] at hck
      have HCK := Lib.hid hck
      clear hz hev hck hk hlt
      go_wp2_with fail
      refine HCK.out.mono ?_
      rintro e w2 ⟨rfl, hb2⟩
      have hblk2 := blk_kept hb2 HBLK.out
      have hres2 := blk_kept hb2 HRES.out
      have HOWN2 := Lib.hid (ownsRow_below HOWN.out hb2)
      have HB2 := Lib.hid (HB.out.trans (hb2.mono HB.out.size))
      clear p_c0 p_c1 p_c2 p_f0 p_f1 p_f2
      have p_c0 : World.cell? w2 ⟨w1.heap.size, 0, none⟩ = some (.string ⟨st.toArray⟩) := by rw [cell_of_block hblk2]; rfl
      have p_f0 : World.frozen? w2 ⟨w1.heap.size, 0, none⟩ = false := frozen_of_block hblk2
      have p_c1 : World.cell? w2 ⟨w1.heap.size, 1, none⟩ = some (.int .i64 first) := by rw [cell_of_block hblk2]; rfl
      have p_f1 : World.frozen? w2 ⟨w1.heap.size, 1, none⟩ = false := frozen_of_block hblk2
      have p_c2 : World.cell? w2 ⟨w1.heap.size, 2, none⟩ = some (.slice a0 l.length cap0) := by rw [cell_of_block hblk2]; rfl
      have p_f2 : World.frozen? w2 ⟨w1.heap.size, 2, none⟩ = false := frozen_of_block hblk2
      have q_c0 : World.cell? w2 ⟨w.heap.size, 0, none⟩ = some (.string ⟨#[]⟩) := by rw [cell_of_block hres2]; rfl
      have q_f0 : World.frozen? w2 ⟨w.heap.size, 0, none⟩ = false := frozen_of_block hres2
      have q_c1 : World.cell? w2 ⟨w.heap.size, 1, none⟩ = some (.int .i64 0) := by rw [cell_of_block hres2]; rfl
      have q_f1 : World.frozen? w2 ⟨w.heap.size, 1, none⟩ = false := frozen_of_block hres2
      have q_c2 : World.cell? w2 ⟨w.heap.size, 2, none⟩ = some (.slice none 0 0) := by rw [cell_of_block hres2]; rfl
      have q_f2 : World.frozen? w2 ⟨w.heap.size, 2, none⟩ = false := frozen_of_block hres2
      clear hb2 hblk2
      go_wp2_with fail
      obtain ⟨W2, hW2⟩ : ∃ W2, ((w2.setCell ⟨w.heap.size, 0, none⟩ (.string ⟨st.toArray⟩)).setCell ⟨w.heap.size, 1, none⟩ (.int .i64 first)).setCell ⟨w.heap.size, 2, none⟩ (.slice a0 l.length cap0) = W2 := ⟨_, rfl⟩
      rw [hW2]
      have hfin : W2.heap[w.heap.size]? = some (.cells #[.string ⟨st.toArray⟩, .int .i64 first, .slice a0 l.length cap0] 132) := by
        rw [← hW2]; exact block_setCell (block_setCell (block_setCell hres2 _) _) _
      have hbf : Below w.heap.size w W2 := by rw [← hW2]; exact below_set3 HB2.out _ _ _
      have hof : W2.ownsRow (w1.heap.size + 1) 77 3 (.slice a0 l.length cap0) l.length (evCells l) := by
        rw [← hW2]; exact ownsRow_far (ownsRow_far (ownsRow_far HOWN2.out (by omega)) (by omega)) (by omega)
      have r_c0 : W2.cell? ⟨w.heap.size, 0, none⟩ = some (.string ⟨st.toArray⟩) := by rw [cell_of_block hfin]; rfl
      have r_c1 : W2.cell? ⟨w.heap.size, 1, none⟩ = some (.int .i64 first) := by rw [cell_of_block hfin]; rfl
      have r_c2 : W2.cell? ⟨w.heap.size, 2, none⟩ = some (.slice a0 l.length cap0) := by rw [cell_of_block hfin]; rfl
      exact bodyPost_ret (v := .tuple #[.agg #[.string ⟨st.toArray⟩, .int .i64 first, .slice a0 l.length cap0], .int .i64 0]) (by simp [results, Tryz.results94, go_sem, r_c0, r_c1, r_c2]) rfl ⟨_, rfl, ownsRow_base hof (by omega), hbf⟩
end Go.Proofs.YtamlhndibcafgaaGreatDoor
