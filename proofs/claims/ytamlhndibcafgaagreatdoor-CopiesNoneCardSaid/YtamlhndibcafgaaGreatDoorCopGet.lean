/- Contract of copies.Get. -/
import Derived.Test.YtamlhndibcafgaaGreatDoorEvents
import Derived.Test.YtamlhndibcafgaaGreatDoorMapKit
import Derived.Test.YtamlhndibcafgaaGreatDoorStrs
namespace Go.Proofs.YtamlhndibcafgaaGreatDoor
open Go.RowKit Go.MapKept
open Go.ChangeMaps (setBlock)

def Tl.cells (t : Tl) : List Value := [.string ⟨t.st.toArray⟩, .int .i64 t.ver, .string ⟨t.ev.ty.toArray⟩, .string ⟨t.ev.da.toArray⟩, .float .f64 t.ev.wt]
def tlCells (l : List Tl) : List Value := l.flatMap Tl.cells
theorem Tryz.zeroInt (w : World) : (zeroValue 3).run Tryz.prog w = .ok (.int .i64 0) w := by kernel_rfl
theorem tlCells_snoc (l : List Tl) (t : Tl) : tlCells (l ++ [t]) = tlCells l ++ t.cells := by simp [tlCells]
theorem Tryz.infoTold : (Tryz.prog.info? 79).map (fun i => (i.zero, i.size, i.bytes)) = some (some (.agg #[.string ⟨#[]⟩, .int .i64 0, .string ⟨#[]⟩, .string ⟨#[]⟩, .float .f64 0]), 5, 64) := by kernel_rfl
/-- What Get comes to. -/
def GetPost (w : World) (s : List UInt8) (e : Ending) (w' : World) : Prop :=
  Below w.heap.size w w' ∧ match getC s with
    | none => e = .returned (.tuple #[.slice none 0 0, .int .i64 10])
    | some l => ∃ v, e = .returned (.tuple #[v, .int .i64 0]) ∧ w'.ownsRow w.heap.size 79 5 v l.length (tlCells l) ∧ (v = .slice none 0 0 ↔ l = [])

theorem GetPost.no {w w' : World} {s : List UInt8} (h : getC s = none) (hb : Below w.heap.size w w') : GetPost w s (.returned (.tuple #[.slice none 0 0, .int .i64 10])) w' := by
  unfold GetPost; rw [h]; exact ⟨hb, rfl⟩
theorem GetPost.yes {w w' : World} {s : List UInt8} {l : List Tl} {v : Value} (h : getC s = some l) (hb : Below w.heap.size w w')
    (ho : w'.ownsRow w.heap.size 79 5 v l.length (tlCells l)) (hn : v = .slice none 0 0 ↔ l = []) : GetPost w s (.returned (.tuple #[v, .int .i64 0])) w' := by
  unfold GetPost; rw [h]; exact ⟨hb, v, rfl, ho, hn⟩

/-- What holds at the head of Get's loop: B the map's block, G what all comes to. -/
def GetRel (w : World) (B N : Nat) (G : Option (List Tl × List UInt8)) (rest lv i : Value) (wr : World) : Prop :=
  ∃ (k : Nat) (L : List Tl) (r : List UInt8) (m : List (Ent (List UInt8))) (c : Nat), k ≤ N ∧ i = .int .u64 k ∧ rest = .string ⟨r.toArray⟩ ∧ r.length ≤ 1048576 ∧ L.length ≤ 1000 ∧
    wr.ownsRow (B + 1) 79 5 lv L.length (tlCells L) ∧ (lv = .slice none 0 0 ↔ L = []) ∧ wr.heap[B]? = some (.map (strKeys.ents m) c) ∧
    (∀ st, (aget m st).getD (.int .i64 0) = .int .i64 (cnt L st)) ∧ Below w.heap.size w wr ∧ getN (N - k) L r = G

set_option maxRecDepth 100000 in
set_option maxHeartbeats 1000000 in
theorem copies_Get (s : List UInt8) (w : World) (hs : s.length ≤ 1048576) :
    Calls Tryz.prog 11 #[.string ⟨s.toArray⟩] w (GetPost w s) := by
  cases ho : openL s with
  | none =>
    have H := Lib.hid (show getC s = none by simp [getC, ho])
    have hpr : prefB [] markL = false := rfl
    have hcut : cutP [] markL = [] := rfl
    go_enter Tryz.func11, Tryz.ntmps11
    go_wp2_with fail
    refine (sums_Open_none _ _ (by omega) ho).mono ?_
    rintro r w1 ⟨rfl, hb⟩
    clear ho
    go_wp2_with fail
    refine (strings_CutPrefix [] markL _ (by simp) (by simp [markL, maxLen])).mono ?_
    rintro r w' ⟨rfl, rfl⟩
    rw [hpr, hcut]
    clear hpr hcut
    go_wp2_with fail
    go_ret2
    exact .no H.out hb
  | some t =>
    have hts := openL_some ho
    have htl : t.length ≤ 1048576 := by rw [hts] at hs; simp at hs; omega
    clear hts
    by_cases hpr : prefB t markL = true
    · by_cases h4 : 4 ≤ (t.drop 9).length
      · have HC := Lib.hid (show cutP t markL = t.drop 9 by unfold cutP; rw [if_pos hpr]; rfl)
        have HP := Lib.hid hpr
        have HG := Lib.hid (show getC s = getFin (getN (beN ((t.drop 9).take 4)) [] ((t.drop 9).drop 4)) by
          unfold getC; rw [ho]; dsimp only; rw [if_pos ⟨by simpa [markL] using prefB_iff.1 hpr, h4⟩])
        clear hpr
        generalize hu : t.drop 9 = u at *
        have hul : u.length ≤ 1048576 := by rw [← hu]; simp; omega
        have HU := Lib.hid hu
        clear hu
        have hmm := @run_makeMap Tryz.prog
        go_enter Tryz.func11, Tryz.ntmps11
        go_wp2_with fail
        refine (sums_Open_some _ _ _ (by omega) ho).mono ?_
        rintro r w1 ⟨rfl, hb⟩
        clear ho
        go_wp2_with fail
        refine (strings_CutPrefix t markL _ (by unfold maxLen; omega) (by simp [markL, maxLen])).mono ?_
        rintro r w' ⟨rfl, rfl⟩
        rw [HP.out, HC.out]
        go_wp2_with fail
        refine (nums_Get _ _ (by simp [maxLen]; omega)).mono ?_
        rintro r w' ⟨rfl, rfl⟩
        rw [List.take_take, show min 8 4 = 4 from rfl]
        have hN32 : beN (u.take 4) < 4294967296 := by
          have h := beN_lt (u.take 4)
          have h3 : 256 ^ (u.take 4).length ≤ 256 ^ 4 := Nat.pow_le_pow_right (by omega) (List.length_take_le 4 u)
          omega
        generalize hN : beN (u.take 4) = N at *
        have HN := Lib.hid hN
        clear hN
        go_wp2_with fail
        go_loopw [6, 10, 40] (fun rest lv i wr => GetRel w w1.heap.size N (getN N [] (u.drop 4)) rest lv i wr) (fun _ _ i _ => N - (intOf i).toNat)
        case atStart =>
          refine ⟨0, [], u.drop 4, [], 0, by omega, rfl, rfl, by simp; omega, by simp, World.ownsRow_nil _ _ _ _, by simp, heap_alloc_new _ _, fun st => rfl, hb.alloc hb.size _, rfl⟩
        case round =>
          obtain ⟨k, L, r, m, c, hk, rfl, rfl, hrl, hL, hown, hnil, hmap, hcnt, hbw, hget⟩ := hrel
          have HGN := Lib.hid hget
          have HNIL := Lib.hid hnil
          have HCNT := Lib.hid hcnt
          clear hget hnil hcnt
          by_cases hlt : k < N
          · cases h1 : readL r with
            | none =>
              have HN' := Lib.hid (show getC s = none by rw [HG.out, ← HGN.out, show N - k = (N - (k + 1)) + 1 by omega, getN_no1 _ _ _ h1]; rfl)
              obtain ⟨a0, cap0, rfl⟩ := ownsRow_slice hown
              go_wp2_with fail
              refine (nums_Read_none _ _ (by unfold maxLen; omega) h1).mono ?_
              rintro e w' ⟨rfl, rfl⟩
              clear h1
              go_wp2_with fail
              refine (events_Read_none [] _ (by simp) readE_nil).mono ?_
              rintro e w3 ⟨rfl, hb3⟩
              unfold noneE
              have hbw3 := hbw.trans (hb3.mono hbw.size)
              go_wp2_with fail
              go_ret2
              exact .no HN'.out (hbw3.alloc hbw3.size _)
            | some p =>
              obtain ⟨st, r1⟩ := p
              have hr := readL_some h1
              have hr1 : r1.length ≤ r.length := by rw [hr.2.2.2]; simp only [List.length_drop]; omega
              have hst : st.length ≤ r.length := by rw [hr.2.2.1]; simp only [List.length_take, List.length_drop]; omega
              clear hr
              cases h2 : readE r1 with
              | none =>
                have HN' := Lib.hid (show getC s = none by rw [HG.out, ← HGN.out, show N - k = (N - (k + 1)) + 1 by omega, getN_no2 _ _ _ _ _ h1 h2]; rfl)
                obtain ⟨a0, cap0, rfl⟩ := ownsRow_slice hown
                go_wp2_with fail
                refine (nums_Read_some _ _ _ _ (by unfold maxLen; omega) h1).mono ?_
                rintro e w2 ⟨rfl, hb2⟩
                clear h1
                go_wp2_with fail
                refine (events_Read_none _ _ (by unfold maxLen; omega) h2).mono ?_
                rintro e w3 ⟨rfl, hb3⟩
                unfold noneE
                have hbw2 := hbw.trans (hb2.mono hbw.size)
                have hbw3 := hbw2.trans (hb3.mono hbw2.size)
                go_wp2_with fail
                go_ret2
                exact .no HN'.out (hbw3.alloc hbw3.size _)
              | some q =>
                obtain ⟨x, r2⟩ := q
                by_cases h3 : streamB st = true ∧ L.length ≠ 1000
                · go_wp2_with fail
                  refine (nums_Read_some _ _ _ _ (by unfold maxLen; omega) h1).mono ?_
                  rintro e w2 ⟨rfl, hb2⟩
                  go_wp2_with fail
                  refine (events_Read_some _ _ _ _ (by unfold maxLen; omega) h2).mono ?_
                  rintro e w3 ⟨rfl, hb3⟩
                  obtain ⟨a0, cap0, rfl⟩ := ownsRow_slice hown
                  obtain ⟨h3a, h3b⟩ := h3
                  have h3c : ((L.length : Int) == 1000) = false := by rw [beq_eq_false_iff_ne]; omega
                  unfold Ev.val
                  go_wp2_with fail
                  refine (names_Stream st _ (by unfold maxLen; omega)).mono ?_
                  rintro e w' ⟨rfl, rfl⟩
                  rw [h3a]
                  have hbw3 : Below wr.heap.size wr w3 := hb2.trans (hb3.mono hb2.size)
                  have hown4 := (ownsRow_below hown hbw3).alloc (.cells #[.string ⟨x.ty.toArray⟩, .string ⟨x.da.toArray⟩, .float .f64 x.wt] 77)
                  have hmap4 := blk_alloc (o' := .cells #[.string ⟨x.ty.toArray⟩, .string ⟨x.da.toArray⟩, .float .f64 x.wt] 77) (blk_kept hbw3 hmap)
                  have hcl := cnt_le L st
                  have hlk := run_lookup_getD (P := Tryz.prog) (t := 85) strKeys Tryz.underlying85 Tryz.underlying9 (Tryz.zeroInt _) hmap4 st
                  rw [HCNT.out] at hlk
                  dsimp only [strKeys] at hlk
                  obtain ⟨i0, hi, hz0, hz1, hz2⟩ := info_parts Tryz.infoTold
                  have H0 := Lib.hid hi; have H1 := Lib.hid hz0; have H2 := Lib.hid hz1; have H3 := Lib.hid hz2
                  clear hi hz0 hz1 hz2
                  go_wp2_with (at_builtin; refine wpList_append_own _ rfl _ _ 22 rfl (w1.heap.size + 1) 79 i0 _ 5 64 Tryz.underlying22 H0.out H1.out H2.out H3.out rfl (by decide) _ _ _ rfl (hown4.alloc _) ⟨w3.heap.size + 1, 0, none⟩ 1 1 (Tl.cells ⟨st, cnt L st, x⟩) rfl rfl ?c1 ?c2 ?c3 ?c4 ?c5 ?_)
                  case c1 => exact news_alloc (by simp) (Tl.cells ⟨st, cnt L st, x⟩) 79
                  case c2 => intro u hu; simp only [Tl.cells, List.mem_cons, List.mem_nil_iff, or_false] at hu; rcases hu with rfl | rfl | rfl | rfl | rfl <;> rfl
                  case c3 => unfold maxLen; omega
                  case c4 => omega
                  case c5 => have := blk_lt hmap; have := hbw3.size; simp; omega
                  intro v' w5 hown5 hgrow5 hiff5
                  have hown4' := hown4
                  clear hlk hown4 hown
                  have hB3 : w1.heap.size < w3.heap.size := by have := blk_lt hmap; have := hbw3.size; omega
                  have hmap5 : w5.heap[w1.heap.size]? = some (.map (strKeys.ents m) c) := by
                    rw [hgrow5.block _ (by simp; omega) ?_]
                    · exact blk_alloc hmap4
                    · intro e
                      have := (World.ownsRow.lt hown4' _ e.symm).1
                      omega
                  obtain ⟨a5, cap5, rfl⟩ := ownsRow_slice hown5
                  have hlk5 := run_lookup_getD (P := Tryz.prog) (t := 85) strKeys Tryz.underlying85 Tryz.underlying9 (Tryz.zeroInt _) hmap5 st
                  rw [HCNT.out] at hlk5
                  dsimp only [strKeys] at hlk5
                  have hup := run_mapUpdate (P := Tryz.prog) (t := 85) strKeys Tryz.underlying85 Tryz.underlying9 hmap5 st (.int .i64 (cnt L st + 1))
                  dsimp only [strKeys] at hup
                  have hbw5 : Below w.heap.size w w5 := by
                    have hz := hbw.size
                    have hz3 := hbw3.size
                    refine (((hbw.trans (hbw3.mono hz)).alloc (by omega) _).alloc (by simp; omega) _).grown hgrow5 (by simp; omega) (fun j hj => ?_)
                    have := (World.ownsRow.lt hown4' _ hj).1
                    have := blk_lt hmap
                    have := hb.size
                    omega
                  have HIFF := Lib.hid hiff5
                  clear hiff5 hown4' hmap4
                  go_wp2_with fail
                  go_roundw
                  case rel =>
                    refine ⟨k + 1, L ++ [⟨st, cnt L st, x⟩], r2, aset m st (.int .i64 (cnt L st + 1)) c, aclock m st c, by omega, by go_num, rfl, ?_, by simp; omega, ?_, ?_, setBlock_at hmap5, ?_, setBlock_below hbw5 hmap5 hb.size, ?_⟩
                    · have := readE_le h2; omega
                    · rw [List.length_append, tlCells_snoc]
                      exact setBlock_ownsRow hown5 hmap5 (by omega)
                    · exact ⟨fun e => (HIFF.out e).elim, fun e => by simp at e⟩
                    · intro st'
                      rw [aget_aset, cnt_snoc]
                      by_cases he : st' = st
                      · subst he; simp
                      · have := HCNT.out st'
                        simp [he, this]
                    · rw [← HGN.out, show N - k = (N - (k + 1)) + 1 by omega, getN_succ _ _ _ _ _ _ _ h1 h2 h3a h3b]
                  case measure => simp [intOf]; omega
                · have HN' := Lib.hid (show getC s = none by
                    rw [HG.out, ← HGN.out, show N - k = (N - (k + 1)) + 1 by omega, getN_no3 _ _ _ _ _ _ _ h1 h2 (by
                      by_cases ha : streamB st = true
                      · exact .inr (by by_cases hb : L.length = 1000; exact hb; exact absurd ⟨ha, hb⟩ h3)
                      · exact .inl (by simpa using ha))]; rfl)
                  obtain ⟨a0, cap0, rfl⟩ := ownsRow_slice hown
                  go_wp2_with fail
                  refine (nums_Read_some _ _ _ _ (by unfold maxLen; omega) h1).mono ?_
                  rintro e w2 ⟨rfl, hb2⟩
                  clear h1
                  go_wp2_with fail
                  refine (events_Read_some _ _ _ _ (by unfold maxLen; omega) h2).mono ?_
                  rintro e w3 ⟨rfl, hb3⟩
                  clear h2
                  unfold Ev.val
                  have hbw2 := hbw.trans (hb2.mono hbw.size)
                  have hbw3 := hbw2.trans (hb3.mono hbw2.size)
                  go_wp2_with fail
                  refine (names_Stream st _ (by unfold maxLen; omega)).mono ?_
                  rintro e w' ⟨rfl, rfl⟩
                  by_cases ha : streamB st = true
                  · have hL' : ((L.length : Int) == 1000) = true := by
                      rw [beq_iff_eq]; by_cases hb : L.length = 1000; omega; exact absurd ⟨ha, hb⟩ h3
                    rw [ha]
                    clear h3 ha
                    go_wp2_with fail
                    go_ret2
                    exact .no HN'.out (hbw3.alloc hbw3.size _)
                  · rw [show streamB st = false by simpa using ha]
                    clear h3 ha
                    go_wp2_with fail
                    go_ret2
                    exact .no HN'.out (hbw3.alloc hbw3.size _)
          · obtain rfl : k = N := by omega
            rw [Nat.sub_self] at HGN
            have HF : Hid (getC s = getFin (some (L, r))) := by
              have h := HGN.out
              rw [getN] at h
              exact Lib.hid (by rw [HG.out, ← h])
            have hown' := ownsRow_base (b' := w.heap.size) hown (by have := hb.size; omega)
            cases r with
            | nil =>
              go_wp2_with fail
              go_ret2
              exact .yes HF.out hbw hown' HNIL.out
            | cons c0 r0 =>
              go_wp2_with fail
              go_ret2
              exact .no HF.out hbw
      · have HC := Lib.hid (show cutP t markL = t.drop 9 by unfold cutP; rw [if_pos hpr]; rfl)
        have HP := Lib.hid hpr
        have HG := Lib.hid (show getC s = none by
          unfold getC; rw [ho]; dsimp only; rw [if_neg (by omega)])
        clear hpr
        generalize hu : t.drop 9 = u at *
        have HU := Lib.hid hu
        clear hu
        go_enter Tryz.func11, Tryz.ntmps11
        go_wp2_with fail
        refine (sums_Open_some _ _ _ (by omega) ho).mono ?_
        rintro r w1 ⟨rfl, hb⟩
        clear ho
        go_wp2_with fail
        refine (strings_CutPrefix t markL _ (by unfold maxLen; omega) (by simp [markL, maxLen])).mono ?_
        rintro r w' ⟨rfl, rfl⟩
        rw [HP.out, HC.out]
        go_wp2_with fail
        go_ret2
        exact .no HG.out hb
    · have hpf : prefB t markL = false := by simpa using hpr
      have HC := Lib.hid (show cutP t markL = t by simp [cutP, hpf])
      have HP := Lib.hid hpf
      have HG := Lib.hid (show getC s = none by
        unfold getC; rw [ho]; dsimp only
        rw [if_neg]; rintro ⟨h, -⟩; exact hpr (prefB_iff.2 (by simpa [markL] using h)))
      clear hpr hpf
      go_enter Tryz.func11, Tryz.ntmps11
      go_wp2_with fail
      refine (sums_Open_some _ _ _ (by omega) ho).mono ?_
      rintro r w1 ⟨rfl, hb⟩
      clear ho
      go_wp2_with fail
      refine (strings_CutPrefix t markL _ (by unfold maxLen; omega) (by simp [markL, maxLen])).mono ?_
      rintro r w' ⟨rfl, rfl⟩
      rw [HP.out, HC.out]
      go_wp2_with fail
      go_ret2
      exact .no HG.out hb
end Go.Proofs.YtamlhndibcafgaaGreatDoor
