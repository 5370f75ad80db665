/- Contract of memtable.Add. -/
import Derived.Test.YtamlhndibcafgaaGreatDoorEntEq
import Derived.Deep.DeepCutAuto
import Derived.Deep.RegionHeld3
import Derived.Deep.CutBlock
import Derived.Outline
import Derived.Deep.RegionLaw
import Derived.Deep.RegionLawGrows
import Derived.Deep.Upon
namespace Go.Proofs.YtamlhndibcafgaaGreatDoor
open Go.RowKit Go.MapKept
theorem Tryz.infoEntry : (Tryz.prog.info? 142).map (fun i => (i.zero, i.size, i.bytes)) = some (some (.agg #[.int .u64 0, .int .i64 0, .int .i64 0]), 3, 24) := by kernel_rfl

theorem row_cap {w : World} {base : Nat} {e : TypeId} {size n cap : Nat} {a : Option Addr} {xs : List Value} (h : w.ownsRow base e size (.slice a (n + 1) cap) (n + 1) xs) : n + 1 ≤ cap := by
  rcases h.2 with ⟨h1, _⟩ | ⟨g, cap', cur, h1, _, _, h2⟩
  · cases h1
  · cases h1
    exact h2.1
theorem rowsE_length (l : List En) : (rowsE l).length = l.length * 3 := by
  unfold rowsE
  induction l with
  | nil => rfl
  | cons x l ih => simp only [List.map_cons, List.flatten_cons, List.length_append, ih, En.row, List.length_cons, List.length_nil]; omega
theorem rowsE_append (a b : List En) : rowsE (a ++ b) = rowsE a ++ rowsE b := by simp [rowsE]
theorem rowsE_one {l : List En} {u : Value} (h : u ∈ rowsE l) : u.oneCell' = true := by
  unfold rowsE at h
  simp only [List.mem_flatten, List.mem_map] at h
  obtain ⟨r, ⟨e, -, rfl⟩, hu⟩ := h
  simp only [En.row, List.mem_cons, List.mem_nil_iff, or_false] at hu
  rcases hu with rfl | rfl | rfl <;> rfl
theorem addr_add (g i j : Nat) : (⟨g, i, none⟩ : Addr).add j = ⟨g, i + j, none⟩ := by unfold Addr.add; split <;> simp_all
theorem rows_drop {w : World} {base g n cap : Nat} {l : List En} (h : w.ownsRow base 142 3 (.slice (some ⟨g, 0, none⟩) n cap) n (rowsE l)) (hn : n = l.length) {A : Nat} (hA : A ≤ l.length) :
    ∀ j u, (rowsE (l.drop A))[j]? = some u → w.cell? ((⟨g, A * 3, none⟩ : Addr).add j) = some u := by
  intro j u hu
  have hj := (List.getElem?_eq_some_iff.1 hu).1
  rw [rowsE_length, List.length_drop] at hj
  rw [addr_add, h.cellAt (A * 3 + j) (by rw [hn]; omega)]
  have e : rowsE l = rowsE (l.take A) ++ rowsE (l.drop A) := by rw [← rowsE_append, List.take_append_drop]
  have hlA : (rowsE (l.take A)).length = A * 3 := by rw [rowsE_length, List.length_take, Nat.min_eq_left hA]
  rw [e, List.getElem?_append_right (by rw [hlA]; omega), hlA, show A * 3 + j - A * 3 = j by omega]
  exact hu
theorem rows_take {w : World} {base g n cap : Nat} {l : List En} (h : w.ownsRow base 142 3 (.slice (some ⟨g, 0, none⟩) n cap) n (rowsE l)) (hn : n = l.length) {A : Nat} (hA : A ≤ l.length) :
    ∀ j u, (rowsE (l.take A))[j]? = some u → w.cell? ((⟨g, 0, none⟩ : Addr).add j) = some u := by
  intro j u hu
  have hj := (List.getElem?_eq_some_iff.1 hu).1
  rw [rowsE_length, List.length_take, Nat.min_eq_left hA] at hj
  rw [addr_add, Nat.zero_add, h.cellAt j (by rw [hn]; omega)]
  have e : rowsE l = rowsE (l.take A) ++ rowsE (l.drop A) := by rw [← rowsE_append, List.take_append_drop]
  rw [e, List.getElem?_append_left (by rw [rowsE_length, List.length_take, Nat.min_eq_left hA]; exact hj)]
  exact hu
theorem row_caps {w : World} {base : Nat} {e : TypeId} {size n cap : Nat} {a : Option Addr} {xs : List Value} (h : w.ownsRow base e size (.slice a n cap) n xs) : n ≤ cap ∧ cap ≤ maxLen ∧ (a = none → n = 0 ∧ cap = 0) := by
  rcases h.2 with ⟨h1, h2⟩ | ⟨g, cap', cur, h1, _, _, h2⟩
  · cases h1; exact ⟨by omega, by unfold maxLen; omega, fun _ => ⟨rfl, rfl⟩⟩
  · cases h1
    exact ⟨h2.1, h2.2.1, fun e => by cases e⟩
/-- Nothing is appended, as a step of a region that draws its order. -/
theorem step_append_zero {P : Program} {ops : Array Oper} {o : Oper} {a : Act} {w : World} {K : Act → World → Prop} {Q : Exit → Act → World → Prop} {E : Prop}
    (hgd : o.guard = none) (s x : Operand) (t : TypeId) (ho : o.op = .call { callee := .builtin .append, args := #[s, x], argTypes := #[t, t] })
    (e : TypeId) (i : TypeInfo) (ht : P.underlying t = some (.slice e)) (hi : P.info? e = some i) (base : Option Addr) (n cap : Nat) (hs : a.eval s = .slice base n cap) (b : Option Addr) (c : Nat) (hx : a.eval x = .slice b 0 c) (hle : n ≤ cap)
    (h : K (a.put o.dst (.slice base n cap)) w) : if Region.wanted o (yielded ops a.tmps) = true then Oper.wp P o a w K Q else E := by
  have hw : Region.wanted o (yielded ops a.tmps) = true := by simp [Region.wanted, hgd]
  rw [if_pos hw]
  have hrun : (Builtin.append_ #[t, t] o.type #[.slice base n cap, .slice b 0 c]).run P w = .ok (.slice base n cap) w := by
    cases b with
    | none => cases base <;> simp [Builtin.append_, run_underlying ht, sizeOf, typeInfo, hi, Builtin.lenOf, Builtin.firstCells, hle, storeCells]
    | some ad =>
      have hf := run_firstCells_some (P := P) w i.size 0 ad 0 c [] (by simp) (by simp)
      cases base <;> simp [Builtin.append_, run_underlying ht, sizeOf, typeInfo, hi, Builtin.lenOf, hf, hle, storeCells]
  unfold Oper.wp execOp
  simp only [ho, resolve, invoke, builtin, Sem.run_bind, Sem.run_pure, Result.andThen_ok, List.map_toArray, List.map_cons, List.map_nil, hs, hx, hrun]
  exact h
def AddPost (b : Nat) (e : En) (l : List En) (w : World) (r : Ending) (w' : World) : Prop :=
  r = .returned (.bool true) ∧ ∃ mv, w'.heap[b]? = some (.cells #[.bool true, mv] 232) ∧ w'.ownsRow w.heap.size 142 3 mv (l.length + 1) (rowsE (insE l e)) ∧ Upd (· = b) w w'
set_option maxRecDepth 100000 in
set_option maxHeartbeats 4000000 in
theorem memtable_Add (b : Nat) (e : En) (l : List En) (a : Option Addr) (cap : Nat) (w : World) (hb : w.heap[b]? = some (.cells #[.bool true, .slice a l.length cap] 232))
    (hrow : w.ownsRow 0 142 3 (.slice a l.length cap) l.length (rowsE l)) (hs : SortedE l) (hn : e ∉ l) (hl : l.length ≤ 1000000) (hself : (Value.slice a l.length cap).ownBlock ≠ some b) :
    Calls Tryz.prog 123 #[.pointer (some ⟨b, 0, none⟩), e.val] w (AddPost b e l w) := by
  have HAL := Lib.hid (addAt_le l e)
  have HSA : Hid (searchE l e.h e.v ≤ addAt l e) := Lib.hid (by
    by_cases hc : searchE l e.h e.v ≤ addAt l e
    · exact hc
    · have h1 : addAt l e < searchE l e.h e.v := by omega
      have h2 := ahead_less (searchE_yes h1)
      rw [addAt_no (Nat.lt_of_lt_of_le h1 (searchE_le _ _ _))] at h2; cases h2)
  have HSE0 := Lib.hid (fun w' hr => entries_Search l a cap e.h e.v w' hl hs hr)
  have HLE := Lib.hid (fun (i : Nat) (hi : i < l.length) w' => entries_Less l[i] e w')
  obtain ⟨A, hA⟩ : ∃ A, addAt l e = A := ⟨_, rfl⟩
  have HINS := Lib.hid (show insE l e = l.take A ++ e :: l.drop A by rw [← hA]; rfl)
  have HMEM := Lib.hid (fun (hA : A < l.length) (he : l[A] = e) => hn (he ▸ List.getElem_mem hA))
  have HYES : Hid (∀ i (_ : i < A) (h2 : i < l.length), lessB l[i] e = true) := Lib.hid (fun i hi _ => by rw [← hA] at hi; exact addAt_yes hi)
  have HNO : Hid (∀ (h2 : A < l.length), lessB l[A] e = false) := Lib.hid (fun h2 => by subst hA; exact addAt_no h2)
  rw [hA] at HAL HSA
  clear hA hs hn
  obtain ⟨S0, hS0⟩ : ∃ S0, searchE l e.h e.v = S0 := ⟨_, rfl⟩
  rw [hS0] at HSA HSE0
  clear hS0
  obtain ⟨h, v, p⟩ := e
  unfold En.val at HLE ⊢
  simp only at HSE0 HLE ⊢
  obtain ⟨i0, hi0, hz0, hz1, hz2⟩ := info_parts Tryz.infoEntry
  have I0 := Lib.hid hi0; have I1 := Lib.hid hz0; have I2 := Lib.hid hz1; have I3 := Lib.hid hz2
  have hlt := blk_lt hb
  have hB := (Below.refl w.heap.size w).alloc (Nat.le_refl _) (.cells #[.int .u64 h, .int .i64 v, .int .i64 p] 142)
  have hk := blk_new (w := w) rfl (.cells #[.int .u64 h, .int .i64 v, .int .i64 p] 142)
  obtain ⟨W, hW⟩ : ∃ W, w.alloc (.cells #[.int .u64 h, .int .i64 v, .int .i64 p] 142) = W := ⟨_, rfl⟩
  rw [hW] at hB hk
  have HN := Lib.hid (memtable_none b _ W (blk_kept hB hb))
  have HW := Lib.hid hW
  have HB := Lib.hid hB
  have hszW : W.heap.size = w.heap.size + 1 := by rw [← hW]; simp
  have HSZ := Lib.hid hszW
  have HE := Lib.hid hk
  have HM := Lib.hid (blk_kept hB hb)
  have HROW := Lib.hid (ownsRow_below hrow hB)
  have HSELF := Lib.hid hself
  -- all that is loaded, in whatever later world
  have HC : Hid (∀ w', Below W.heap.size W w' → w'.cell? ⟨b, 1, none⟩ = some (.slice a l.length cap) ∧ w'.cell? ⟨w.heap.size, 0, none⟩ = some (.int .u64 h) ∧ w'.cell? ⟨w.heap.size, 1, none⟩ = some (.int .i64 v) ∧ w'.cell? ⟨w.heap.size, 2, none⟩ = some (.int .i64 p)) :=
    Lib.hid (fun w' hb' => by
      have h1 := blk_kept hb' HM.out
      have h2 := blk_kept hb' HE.out
      exact ⟨by rw [cell_of_block h1]; rfl, by rw [cell_of_block h2]; rfl, by rw [cell_of_block h2]; rfl, by rw [cell_of_block h2]; rfl⟩)
  have HR : Hid (∀ w', Below W.heap.size W w' → w'.ownsRow 0 142 3 (.slice a l.length cap) l.length (rowsE l)) := Lib.hid (fun w' hb' => ownsRow_below HROW.out hb')
  clear hi0 hz0 hz1 hz2 hb hB hk hW hrow hself hszW
  go_enter Tryz.func123, Tryz.ntmps123
  go_wp2_with fail
  rw [HW.out]
  refine HN.out.mono ?_
  rintro r w1 ⟨rfl, rfl⟩
  obtain ⟨k0, k1, k2, k3⟩ := HC.out W (Below.refl _ _)
  go_wp2_with fail
  go_region_held3 (fun w' => w'.cell? ⟨b, 1, none⟩ = some (.slice a l.length cap) ∧ w'.cell? ⟨w.heap.size, 0, none⟩ = some (.int .u64 h) ∧ w'.cell? ⟨w.heap.size, 1, none⟩ = some (.int .i64 v))
    (first | exact ⟨k0, k1, k2⟩ | (have hq := HC.out _ ((Below.refl _ _).drew); exact ⟨hq.1, hq.2.1, hq.2.2.1⟩) | (have hq := HC.out _ ((Below.refl _ _).drew.trans hbt); exact ⟨hq.1, hq.2.1, hq.2.2.1⟩))
    ((go_at_call 168; with_reducible refine (HSE0.out _ (HR.out _ ((Below.refl _ _).drew))).mono ?_; rintro r w2 ⟨rfl, hbt⟩))
  have HB2 := Lib.hid ((Below.refl _ _).drew.trans hbt : Below W.heap.size W w2)
  rename_i hHeld
  clear hHeld hbt k0 k1 k2 k3 HSE0 HN HW
  go_upto_block 0 with fail
  go_cut [5] (fun s5 wx => s5 = .int .i64 A ∧ Below W.heap.size W wx)
  case first =>
    go_wp2_with fail
    go_loopw [5] (fun av wr => ∃ k : Nat, av = .int .i64 k ∧ k ≤ A ∧ Below W.heap.size W wr) (fun av _ => A - (intOf av).toNat)
    case atStart => exact ⟨S0, rfl, HSA.out, HB2.out⟩
    case round =>
      obtain ⟨k, rfl, hk, hb⟩ := hrel
      have HB3 := Lib.hid hb
      clear hb
      have hAL := HAL.out
      by_cases hlt2 : k < l.length
      · obtain ⟨g, rfl, c0, c1, c2⟩ := ents_cell rfl (HR.out wr HB3.out) hlt2
        have HC2 : Hid (∀ w', Below W.heap.size W w' → w'.cell? ⟨b, 1, none⟩ = some (.slice (some ⟨g, 0, none⟩) l.length cap) ∧ w'.cell? ⟨w.heap.size, 0, none⟩ = some (.int .u64 h) ∧ w'.cell? ⟨w.heap.size, 1, none⟩ = some (.int .i64 v) ∧ w'.cell? ⟨w.heap.size, 2, none⟩ = some (.int .i64 p) ∧
            w'.cell? ⟨g, k * 3, none⟩ = some (.int .u64 l[k].h) ∧ w'.cell? ⟨g, k * 3 + 1, none⟩ = some (.int .i64 l[k].v) ∧ w'.cell? ⟨g, k * 3 + 2, none⟩ = some (.int .i64 l[k].p)) :=
          Lib.hid (fun w' hb' => by
            obtain ⟨q1, q2, q3, q4⟩ := HC.out w' hb'
            obtain ⟨g', e, d0, d1, d2⟩ := ents_cell rfl (HR.out w' hb') hlt2
            cases e
            exact ⟨q1, q2, q3, q4, d0, d1, d2⟩)
        have hk0 : (0 : Int) ≤ k := by omega
        have hk1 : (k : Int) < l.length := by omega
        have hkl : (k : Int) + 1 ≤ 1000000 := by omega
        have HL := Lib.hid (fun w' => HLE.out k hlt2 w')
        obtain ⟨q1, q2, q3, q4, -, -, -⟩ := HC2.out wr HB3.out
        obtain ⟨R, hR⟩ : ∃ R, lessB l[k] ⟨h, v, p⟩ = R := ⟨_, rfl⟩
        rw [hR] at HL
        by_cases hkA : k < A
        · have : R = true := by rw [← hR]; exact HYES.out k hkA hlt2
          subst this
          clear hR
          go_wp2_with fail
          go_region_held3 (fun w' => w'.cell? ⟨b, 1, none⟩ = some (.slice (some ⟨g, 0, none⟩) l.length cap) ∧ w'.cell? ⟨w.heap.size, 0, none⟩ = some (.int .u64 h) ∧ w'.cell? ⟨w.heap.size, 1, none⟩ = some (.int .i64 v) ∧ w'.cell? ⟨w.heap.size, 2, none⟩ = some (.int .i64 p) ∧
            w'.cell? ⟨g, k * 3, none⟩ = some (.int .u64 l[k].h) ∧ w'.cell? ⟨g, k * 3 + 1, none⟩ = some (.int .i64 l[k].v) ∧ w'.cell? ⟨g, k * 3 + 2, none⟩ = some (.int .i64 l[k].p))
            (first | exact ⟨q1, q2, q3, q4, c0, c1, c2⟩ | exact HC2.out _ (HB3.out.drew) | exact HC2.out _ ((HB3.out.drew).trans (hbt.mono HB3.out.size)))
            ((go_at_call 169; with_reducible refine (HL.out _).mono ?_; rintro r w3 ⟨rfl, hbt⟩))
          have HB4 := Lib.hid (HB3.out.drew.trans (hbt.mono HB3.out.size) : Below W.heap.size W w3)
          rename_i hHeld
          clear hHeld hbt q1 q2 q3 q4 c0 c1 c2
          go_wp2_with fail
          go_roundw
          case rel => exact ⟨k + 1, by go_num, by omega, HB4.out⟩
          case measure => simp [intOf]; omega
        · obtain rfl : k = A := by omega
          have : R = false := by rw [← hR]; exact HNO.out hlt2
          subst this
          clear hR
          go_wp2_with fail
          go_region_held3 (fun w' => w'.cell? ⟨b, 1, none⟩ = some (.slice (some ⟨g, 0, none⟩) l.length cap) ∧ w'.cell? ⟨w.heap.size, 0, none⟩ = some (.int .u64 h) ∧ w'.cell? ⟨w.heap.size, 1, none⟩ = some (.int .i64 v) ∧ w'.cell? ⟨w.heap.size, 2, none⟩ = some (.int .i64 p) ∧
            w'.cell? ⟨g, k * 3, none⟩ = some (.int .u64 l[k].h) ∧ w'.cell? ⟨g, k * 3 + 1, none⟩ = some (.int .i64 l[k].v) ∧ w'.cell? ⟨g, k * 3 + 2, none⟩ = some (.int .i64 l[k].p))
            (first | exact ⟨q1, q2, q3, q4, c0, c1, c2⟩ | exact HC2.out _ (HB3.out.drew) | exact HC2.out _ ((HB3.out.drew).trans (hbt.mono HB3.out.size)))
            ((go_at_call 169; with_reducible refine (HL.out _).mono ?_; rintro r w3 ⟨rfl, hbt⟩))
          have HB4 := Lib.hid (HB3.out.drew.trans (hbt.mono HB3.out.size) : Below W.heap.size W w3)
          rename_i hHeld
          clear hHeld hbt q1 q2 q3 q4 c0 c1 c2
          go_wp2_with fail
          go_meet
          case rel => exact ⟨rfl, HB4.out⟩
      · obtain ⟨q1, q2, q3, q4⟩ := HC.out wr HB3.out
        obtain rfl : k = A := by omega
        have hge : ¬ (k : Int) < l.length := by omega
        go_wp2_with fail
        go_quiet (fail)
        have HB4 := Lib.hid (HB3.out.trans (below_drewN (Below.refl _ _) nq |>.mono HB3.out.size) : Below W.heap.size W (wr.drewN nq))
        clear q1 q2 q3 q4
        go_wp2_with fail
        go_meet
        case rel => exact ⟨rfl, HB4.out⟩
  case rest =>
    obtain ⟨rfl, hbc⟩ := hcut
    have HBC := Lib.hid hbc
    clear hbc HLE HYES HNO
    go_upto_region 6 with fail
    go_cut [54] (fun s54 wx => s54 = .bool false ∧ Below W.heap.size W wx)
    case first =>
      obtain ⟨q1, q2, q3, q4⟩ := HC.out wc HBC.out
      by_cases hlt2 : A < l.length
      · obtain ⟨g, rfl, c0, c1, c2⟩ := ents_cell rfl (HR.out wc HBC.out) hlt2
        have hk0 : (0 : Int) ≤ A := by omega
        have hk1 : (A : Int) < l.length := by omega
        have hne := HMEM.out hlt2
        obtain ⟨x, hx⟩ : ∃ x, l[A] = x := ⟨_, rfl⟩
        rw [hx] at c0 c1 c2 hne
        clear hx
        obtain ⟨xh, xv, xp⟩ := x
        simp only at c0 c1 c2
        have heqr : ∀ w', (binOp .eql 142 (.agg #[.int .u64 xh, .int .i64 xv, .int .i64 xp]) (.agg #[.int .u64 h, .int .i64 v, .int .i64 p])).run Tryz.prog w' = .ok (.bool false) w' := fun w' => by
          have := run_eql_entry ⟨xh, xv, xp⟩ ⟨h, v, p⟩ w'
          rwa [decide_eq_false hne] at this
        have hgd := Tryz.guardEntry
        clear hne
        go_wp2_with fail
        go_quiet (fail)
        have HB4 := Lib.hid (HBC.out.trans (below_drewN (Below.refl _ _) nq |>.mono HBC.out.size) : Below W.heap.size W (wc.drewN nq))
        clear q1 q2 q3 q4 c0 c1 c2 heqr hgd
        go_wp2_with fail
        go_meet
        case rel => exact ⟨rfl, HB4.out⟩
      · have hge : ¬ (A : Int) < l.length := by omega
        go_wp2_with fail
        go_quiet (fail)
        have HB4 := Lib.hid (HBC.out.trans (below_drewN (Below.refl _ _) nq |>.mono HBC.out.size) : Below W.heap.size W (wc.drewN nq))
        clear q1 q2 q3 q4
        go_wp2_with fail
        go_meet
        case rel => exact ⟨rfl, HB4.out⟩
    case rest =>
      obtain ⟨rfl, hbd⟩ := hcut
      have HBD := Lib.hid hbd
      obtain ⟨hcap1, hcap2, hcap3⟩ := row_caps (HR.out wc hbd)
      have HCAP3 := Lib.hid hcap3
      unfold maxLen at hcap2
      have hm3 := blk_kept hbd HM.out
      have hk3 := blk_kept hbd HE.out
      have hsz3 : b < wc.heap.size := blk_lt hm3
      have hsz4 : w.heap.size < wc.heap.size := blk_lt hk3
      have p_c0 : World.cell? wc ⟨w.heap.size, 0, none⟩ = some (.int .u64 h) := by rw [cell_of_block hk3]; rfl
      have p_f0 : World.frozen? wc ⟨w.heap.size, 0, none⟩ = false := frozen_of_block hk3
      have p_c1 : World.cell? wc ⟨w.heap.size, 1, none⟩ = some (.int .i64 v) := by rw [cell_of_block hk3]; rfl
      have p_f1 : World.frozen? wc ⟨w.heap.size, 1, none⟩ = false := frozen_of_block hk3
      have p_c2 : World.cell? wc ⟨w.heap.size, 2, none⟩ = some (.int .i64 p) := by rw [cell_of_block hk3]; rfl
      have p_f2 : World.frozen? wc ⟨w.heap.size, 2, none⟩ = false := frozen_of_block hk3
      have q_c0 : World.cell? wc ⟨b, 0, none⟩ = some (.bool true) := by rw [cell_of_block hm3]; rfl
      have q_f0 : World.frozen? wc ⟨b, 0, none⟩ = false := frozen_of_block hm3
      have q_c1 : World.cell? wc ⟨b, 1, none⟩ = some (.slice a l.length cap) := by rw [cell_of_block hm3]; rfl
      have q_f1 : World.frozen? wc ⟨b, 1, none⟩ = false := frozen_of_block hm3
      have HM3 := Lib.hid hm3
      clear hbd hcap3 hk3 hm3 p_f0 p_f1 p_f2 q_c0 q_f0 q_f1 HM HE HSZ HROW HC
      have hAL := HAL.out
      by_cases hAn : A < l.length
      · obtain ⟨g, rfl, -, -, -⟩ := ents_cell rfl (HR.out wc HBD.out) hAn
        have hgne : g ≠ b := fun e => HSELF.out (by rw [e]; rfl)
        have hglt : g < wc.heap.size := ownsRow_lt (HR.out wc HBD.out) rfl
        have hcA : ¬ cap = A := by omega
        have hcA2 : (A : Int) ≤ cap := by omega
        have hcA3 : (A : Int) ≤ l.length := by omega
        have hcA4 : (0 : Int) ≤ A := by omega
        have HOLD := Lib.hid (fun w' (hb' : Below W.heap.size W w') => rows_take (HR.out w' hb') rfl hAL)
        have HNEW := Lib.hid (fun w' (hb' : Below W.heap.size W w') => rows_drop (HR.out w' hb') rfl hAL)
        have y1 : World.cell? (wc.alloc (.cells #[.int .u64 h, .int .i64 v, .int .i64 p] 142)) ⟨b, 1, none⟩ = some (.slice (some ⟨g, 0, none⟩) l.length cap) := by rw [cell_of_block (blk_alloc HM3.out)]; rfl
        have HEL := Lib.hid (show (rowsE (l.take A)).length = A * 3 by rw [rowsE_length, List.length_take, Nat.min_eq_left hAL])
        have HEL2 := Lib.hid (show (rowsE (l.drop A)).length = (l.length - A) * 3 by rw [rowsE_length, List.length_drop])
        go_wp2_with fail
        go_region_law
          ((first
            | (refine step_append_grows (by rfl) _ _ _ (by rfl) 142 i0 (.agg #[.int .u64 0, .int .i64 0, .int .i64 0]) 3 24 Tryz.underlying206 I0.out I1.out I2.out I3.out rfl (by omega) (some ⟨g, 0, none⟩) A A (rowsE (l.take A)) (by rfl) (fun e => by cases e) HEL.out
                (fun b' e => by cases e; exact HOLD.out _ (HBD.out.alloc HBD.out.size _).drew)
                ⟨wc.heap.size, 0, none⟩ 1 1 [.int .u64 h, .int .i64 v, .int .i64 p] (by rfl) (by rfl) (World.news_of_block (cs := #[.int .u64 h, .int .i64 v, .int .i64 p]) (t := 142) (fr := (0, 0)) (heap_alloc_new wc _)) (by simp [Value.oneCell'])
                (by omega) (by unfold maxLen; omega) (by omega) ?_
               intro v7 w7 hown7 hgrow7
               obtain ⟨a7, cap7, rfl⟩ := ownsRow_slice hown7
               have hb7 : Below W.heap.size W w7 := (HBD.out.alloc HBD.out.size _).drew.grown hgrow7 (by have := HBD.out.size; simp; omega) (fun j hj => by cases hj)
               have z1 : w7.cell? ⟨b, 1, none⟩ = some (.slice (some ⟨g, 0, none⟩) l.length cap) := (hgrow7.cell_far ⟨b, 1, none⟩ (by simp; omega) (by simp)).trans y1)
            | (refine step_append_lies _ (by rfl) _ _ _ (by rfl) _ 142 i0 (.agg #[.int .u64 0, .int .i64 0, .int .i64 0]) 3 24 Tryz.underlying206 I0.out I1.out I2.out I3.out rfl (by omega) (.slice a7 (A + 1) cap7) (A + 1) _ (by rfl) hown7
                ⟨g, A * 3, none⟩ (l.length - A) (cap - A) (rowsE (l.drop A)) (by rfl) HEL2.out (HNEW.out _ hb7) (fun u hu => rowsE_one hu) (by omega) (by unfold maxLen; omega) (by omega) hgrow7.size w7.heap.size rfl ?_
               intro gg cap8 w8 hown8 hgrow8 hat8 hlt8
               have hbs : w.heap.size ≤ (wc.alloc (.cells #[.int .u64 h, .int .i64 v, .int .i64 p] 142)).drew.heap.size := by simp; omega
               have zz : w8.heap[b]? = some (.cells #[.bool true, .slice (some ⟨g, 0, none⟩) l.length cap] 232) := (hgrow8.block b (Nat.lt_of_lt_of_le (Nat.lt_of_lt_of_le hlt hbs) hgrow7.size) (fun e => by have := (World.ownsRow.lt hown7 _ e.symm).1; omega)).trans ((hgrow7.block b (Nat.lt_of_lt_of_le hlt hbs) (by simp)).trans (blk_alloc HM3.out))
               have z2 : w8.cell? ⟨b, 1, none⟩ = some (.slice (some ⟨g, 0, none⟩) l.length cap) := by rw [cell_of_block zz]; rfl
               have z3 : w8.frozen? ⟨b, 1, none⟩ = false := frozen_of_block zz
               have HZZ := Lib.hid zz
               have HO8 := Lib.hid (ownsRow_base hown8 hbs)
               have HB8 := Lib.hid (hb7.grown hgrow8 hb7.size (fun j hj => by have := (World.ownsRow.lt hown7 _ hj).1; have := HBD.out.size; simp at *; omega) : Below W.heap.size W w8)
               clear zz hown8 hgrow8 hat8 hlt8 hown7 hgrow7 hb7 z1)))
        all_goals
          go_wp2_with fail
          go_ret
          have e1 : A + 1 + (l.length - A) = l.length + 1 := by omega
          have HO9 := HO8.out
          rw [e1] at HO9 ⊢
          refine ⟨rfl, _, block_setCell HZZ.out _, ?_, ?_⟩
          · have e2 : rowsE (insE l ⟨h, v, p⟩) = rowsE (l.take A) ++ [.int .u64 h, .int .i64 v, .int .i64 p] ++ rowsE (l.drop A) := by
              rw [HINS.out, rowsE_append, List.append_assoc]; rfl
            rw [e2]
            exact ownsRow_far HO9 hlt
          · exact Upd.setCell (S := (· = b)) (Upd.of_below (HB.out.trans (HB8.out.mono HB.out.size))) (.inl rfl) _
      · obtain rfl : A = l.length := by omega
        have hO := HR.out wc HBD.out
        have HEL := Lib.hid (rowsE_length l)
        have hcA2 : (l.length : Int) ≤ cap := by omega
        rcases hO.2 with ⟨h1, h2⟩ | ⟨g, cap', cur, h1, -⟩
        · have hl0 : l = [] := List.eq_nil_of_length_eq_zero h2
          subst hl0
          injection h1 with h1 h3 h4
          subst h1
          subst h4
          clear hO h3 h2
          have EINS := Lib.hid (show rowsE (insE [] ⟨h, v, p⟩) = rowsE [] ++ [.int .u64 h, .int .i64 v, .int .i64 p] from rfl)
          have y1 : World.cell? (wc.alloc (.cells #[.int .u64 h, .int .i64 v, .int .i64 p] 142)) ⟨b, 1, none⟩ = some (.slice none 0 0) := by rw [cell_of_block (blk_alloc HM3.out)]; rfl
          go_wp2_with fail
          go_region_law
            ((first
              | (refine step_append_grows (by rfl) _ _ _ (by rfl) 142 i0 (.agg #[.int .u64 0, .int .i64 0, .int .i64 0]) 3 24 Tryz.underlying206 I0.out I1.out I2.out I3.out rfl (by omega) none 0 0 (rowsE []) (by rfl) (fun _ => ⟨rfl, rfl⟩) rfl (fun b' e => by cases e)
                  ⟨wc.heap.size, 0, none⟩ 1 1 [.int .u64 h, .int .i64 v, .int .i64 p] (by rfl) (by rfl) (World.news_of_block (cs := #[.int .u64 h, .int .i64 v, .int .i64 p]) (t := 142) (fr := (0, 0)) (heap_alloc_new wc _)) (by simp [Value.oneCell'])
                  (by omega) (by unfold maxLen; omega) (by omega) ?_
                 intro v7 w7 hown7 hgrow7
                 obtain ⟨a7, cap7, rfl⟩ := ownsRow_slice hown7
                 have hb7 : Below W.heap.size W w7 := (HBD.out.alloc HBD.out.size _).drew.grown hgrow7 (by have := HBD.out.size; simp; omega) (fun j hj => by cases hj)
                 have hbs : w.heap.size ≤ (wc.alloc (.cells #[.int .u64 h, .int .i64 v, .int .i64 p] 142)).drew.heap.size := by simp; omega
                 have zz : w7.heap[b]? = some (.cells #[.bool true, .slice none 0 0] 232) := (hgrow7.block b (Nat.lt_of_lt_of_le hlt hbs) (by simp)).trans (blk_alloc HM3.out)
                 have z1 : w7.cell? ⟨b, 1, none⟩ = some (.slice none 0 0) := by rw [cell_of_block zz]; rfl
                 have z3 : w7.frozen? ⟨b, 1, none⟩ = false := frozen_of_block zz
                 have HZZ := Lib.hid zz
                 have hc7 := (row_caps hown7).1
                 have HO8 := Lib.hid (ownsRow_base hown7 hbs)
                 have HB8 := Lib.hid hb7
                 clear zz hown7 hgrow7 hb7)
              | (refine step_append_zero (by rfl) _ _ _ (by rfl) 142 i0 Tryz.underlying206 I0.out a7 1 cap7 (by rfl) none 0 (by rfl) hc7 ?_)))
          all_goals
            go_wp2_with fail
            go_ret
            refine ⟨rfl, _, block_setCell HZZ.out _, ?_, ?_⟩
            · rw [EINS.out]
              exact ownsRow_far HO8.out hlt
            · exact Upd.setCell (S := (· = b)) (Upd.of_below (HB.out.trans (HB8.out.mono HB.out.size))) (.inl rfl) _
        · injection h1 with h1 h3 h4
          subst h1
          subst h4
          clear hO h3
          have HOLD : Hid (∀ w' (hb' : Below W.heap.size W w') (b' : Addr) (e : some (⟨g, 0, none⟩ : Addr) = some b'), ∀ j u, (rowsE l)[j]? = some u → w'.cell? (b'.add j) = some u) := Lib.hid (fun w' hb' b' e => by
            cases e
            have := rows_take (HR.out w' hb') rfl (Nat.le_refl _)
            rwa [List.take_length] at this)
          by_cases hcc : cap = l.length
          · have HCC := Lib.hid hcc
            have hle : (cap : Int) ≤ l.length := by omega
            have hle2 : cap ≤ l.length := by omega
            clear hcc
            have EINS := Lib.hid (show rowsE (insE l ⟨h, v, p⟩) = rowsE l ++ [.int .u64 h, .int .i64 v, .int .i64 p] from by rw [HINS.out, List.take_length, List.drop_length, rowsE_append]; rfl)
            have y1 : World.cell? (wc.alloc (.cells #[.int .u64 h, .int .i64 v, .int .i64 p] 142)) ⟨b, 1, none⟩ = some (.slice (some ⟨g, 0, none⟩) l.length cap) := by rw [cell_of_block (blk_alloc HM3.out)]; rfl
            go_wp2_with fail
            go_region_law
              ((first
                | (refine step_append_grows (by rfl) _ _ _ (by rfl) 142 i0 (.agg #[.int .u64 0, .int .i64 0, .int .i64 0]) 3 24 Tryz.underlying206 I0.out I1.out I2.out I3.out rfl (by omega) (some ⟨g, 0, none⟩) l.length l.length (rowsE l) (by rfl) (fun e => by cases e) HEL.out (fun b' e => HOLD.out _ (HBD.out.alloc HBD.out.size _).drew b' e)
                    ⟨wc.heap.size, 0, none⟩ 1 1 [.int .u64 h, .int .i64 v, .int .i64 p] (by rfl) (by rfl) (World.news_of_block (cs := #[.int .u64 h, .int .i64 v, .int .i64 p]) (t := 142) (fr := (0, 0)) (heap_alloc_new wc _)) (by simp [Value.oneCell'])
                    (by omega) (by unfold maxLen; omega) (by omega) ?_
                   intro v7 w7 hown7 hgrow7
                   obtain ⟨a7, cap7, rfl⟩ := ownsRow_slice hown7
                   have hb7 : Below W.heap.size W w7 := (HBD.out.alloc HBD.out.size _).drew.grown hgrow7 (by have := HBD.out.size; simp; omega) (fun j hj => by cases hj)
                   have hbs : w.heap.size ≤ (wc.alloc (.cells #[.int .u64 h, .int .i64 v, .int .i64 p] 142)).drew.heap.size := by simp; omega
                   have zz : w7.heap[b]? = some (.cells #[.bool true, .slice (some ⟨g, 0, none⟩) l.length cap] 232) := (hgrow7.block b (Nat.lt_of_lt_of_le hlt hbs) (by simp)).trans (blk_alloc HM3.out)
                   have z1 : w7.cell? ⟨b, 1, none⟩ = some (.slice (some ⟨g, 0, none⟩) l.length cap) := by rw [cell_of_block zz]; rfl
                   have z3 : w7.frozen? ⟨b, 1, none⟩ = false := frozen_of_block zz
                   have HZZ := Lib.hid zz
                   have hc7 := (row_caps hown7).1
                   have HO8 := Lib.hid (ownsRow_base hown7 hbs)
                   have HB8 := Lib.hid hb7
                   clear zz hown7 hgrow7 hb7)
                | (refine step_append_zero (by rfl) _ _ _ (by rfl) 142 i0 Tryz.underlying206 I0.out a7 (l.length + 1) cap7 (by rfl) _ _ (by rfl) hc7 ?_)))
            all_goals
              go_wp2_with fail
              go_ret
              refine ⟨rfl, _, block_setCell HZZ.out _, ?_, ?_⟩
              · rw [EINS.out]
                exact ownsRow_far HO8.out hlt
              · exact Upd.setCell (S := (· = b)) (Upd.of_below (HB.out.trans (HB8.out.mono HB.out.size))) (.inl rfl) _
          · have hlt3 : (l.length : Int) < cap := by omega
            have EINS := Lib.hid (show rowsE (insE l ⟨h, v, p⟩) = rowsE l ++ [.int .u64 h, .int .i64 v, .int .i64 p] from by rw [HINS.out, List.take_length, List.drop_length, rowsE_append]; rfl)
            have y1 : World.cell? (wc.alloc (.cells #[.int .u64 h, .int .i64 v, .int .i64 p] 142)) ⟨b, 1, none⟩ = some (.slice (some ⟨g, 0, none⟩) l.length cap) := by rw [cell_of_block (blk_alloc HM3.out)]; rfl
            go_wp2_with fail
            go_region_law
              ((first
                | (refine step_append_grows (by rfl) _ _ _ (by rfl) 142 i0 (.agg #[.int .u64 0, .int .i64 0, .int .i64 0]) 3 24 Tryz.underlying206 I0.out I1.out I2.out I3.out rfl (by omega) (some ⟨g, 0, none⟩) l.length l.length (rowsE l) (by rfl) (fun e => by cases e) HEL.out (fun b' e => HOLD.out _ (HBD.out.alloc HBD.out.size _).drew b' e)
                    ⟨wc.heap.size, 0, none⟩ 1 1 [.int .u64 h, .int .i64 v, .int .i64 p] (by rfl) (by rfl) (World.news_of_block (cs := #[.int .u64 h, .int .i64 v, .int .i64 p]) (t := 142) (fr := (0, 0)) (heap_alloc_new wc _)) (by simp [Value.oneCell'])
                    (by omega) (by unfold maxLen; omega) (by omega) ?_
                   intro v7 w7 hown7 hgrow7
                   obtain ⟨a7, cap7, rfl⟩ := ownsRow_slice hown7
                   have hb7 : Below W.heap.size W w7 := (HBD.out.alloc HBD.out.size _).drew.grown hgrow7 (by have := HBD.out.size; simp; omega) (fun j hj => by cases hj)
                   have hbs : w.heap.size ≤ (wc.alloc (.cells #[.int .u64 h, .int .i64 v, .int .i64 p] 142)).drew.heap.size := by simp; omega
                   have zz : w7.heap[b]? = some (.cells #[.bool true, .slice (some ⟨g, 0, none⟩) l.length cap] 232) := (hgrow7.block b (Nat.lt_of_lt_of_le hlt hbs) (by simp)).trans (blk_alloc HM3.out)
                   have z1 : w7.cell? ⟨b, 1, none⟩ = some (.slice (some ⟨g, 0, none⟩) l.length cap) := by rw [cell_of_block zz]; rfl
                   have z3 : w7.frozen? ⟨b, 1, none⟩ = false := frozen_of_block zz
                   have HZZ := Lib.hid zz
                   have hc7 := (row_caps hown7).1
                   have HO8 := Lib.hid (ownsRow_base hown7 hbs)
                   have HB8 := Lib.hid hb7
                   clear zz hown7 hgrow7 hb7)
                | (refine step_append_zero (by rfl) _ _ _ (by rfl) 142 i0 Tryz.underlying206 I0.out a7 (l.length + 1) cap7 (by rfl) _ _ (by rfl) hc7 ?_)))
            all_goals
              go_wp2_with fail
              go_ret
              refine ⟨rfl, _, block_setCell HZZ.out _, ?_, ?_⟩
              · rw [EINS.out]
                exact ownsRow_far HO8.out hlt
              · exact Upd.setCell (S := (· = b)) (Upd.of_below (HB.out.trans (HB8.out.mono HB.out.size))) (.inl rfl) _
end Go.Proofs.YtamlhndibcafgaaGreatDoor
