/- Contract of store.All. -/
import Derived.Test.YtamlhndibcafgaaGreatDoorStore1
import Derived.Test.YtamlhndibcafgaaGreatDoorStoreP
import Derived.Deep.LoopGhost
namespace Go.Proofs.YtamlhndibcafgaaGreatDoor
open Go.RowKit Go.MapKept

def AllPost (b : Nat) (S : St) (T : List Tl) (w : World) (e : Ending) (w' : World) : Prop :=
  ∃ v r, e = .returned (.tuple #[v, .int .i64 0]) ∧ w'.ownsRow w.heap.size 79 5 v T.length (tlCells T) ∧ StoreAt w' b (S.rd r) ∧ Upd (Both S.bl S.L S.D) w w'
set_option maxRecDepth 100000 in
set_option maxHeartbeats 4000000 in
theorem store_All (b : Nat) (S : St) (R : Pays) (l : Recs) (w : World) (h : StoreAt w b S) (hl : S.L.live S.D) (hc : Chunks S.L S.D (csOf R)) (ht : Told R l) (hm : (tolds l).length ≤ 1000000) :
    Calls Tryz.prog 57 #[.pointer (some ⟨b, 0, none⟩)] w (AllPost b S (tolds l) w) := by
  have HN := Lib.hid (store_none b S w h)
  have HH := Lib.hid h
  have HT := Lib.hid ht
  have HM := Lib.hid hm
  have HNEXT := Lib.hid (fun (w' : World) (r : Int) (p : Nat) (hlog : LogOn w' S.bl S.L (S.D.rd r)) (hp : p ≤ 900000) => tflog_Next S.bl S.L (S.D.rd r) w' (csOf R) p hlog hl (hc.rd r) (by omega))
  clear h hl hc ht hm
  go_enter Tryz.func57, Tryz.ntmps57
  go_wp2_with fail
  refine HN.out.mono ?_
  rintro e w1 ⟨rfl, rfl⟩
  go_wp2_with fail
  go_loopg [4, 5] l.length (fun g out pos wr => ∃ (i p : Nat) (r : Int), g = l.length - i ∧ i ≤ l.length ∧ Between l i p ∧ pos = .int .i64 p ∧ wr.ownsRow w.heap.size 79 5 out (tolds (l.take i)).length (tlCells (tolds (l.take i))) ∧ StoreAt wr b (S.rd r) ∧ Upd (Both S.bl S.L S.D) w wr)
  case atStart => exact ⟨0, 0, S.D.reads, rfl, by omega, between_zero l, rfl, World.ownsRow_nil _ _ _ _, HH.out, Upd.refl _ _⟩
  case round =>
    obtain ⟨i, p, r, hg, hi, hbt, rfl, hown, hs, hu⟩ := hrel
    obtain ⟨a4, cap4, rfl⟩ := ownsRow_slice hown
    have HG := Lib.hid hg
    have HBT := Lib.hid hbt
    have HOWN := Lib.hid hown
    have HS := Lib.hid hs
    have HU := Lib.hid hu
    have c0 : wr.cell? ⟨b, 0, none⟩ = some (.pointer (some ⟨S.bl, 0, none⟩)) := by rw [cell_of_block hs.blk]; rfl
    have hnx := next_told HT.out hbt
    have HNX := Lib.hid hnx
    have hpl := hbt.le
    clear hg hbt hown hs hu hnx
    by_cases hlt : i < l.length
    · obtain ⟨x, hx⟩ : ∃ x, l[i] = x := ⟨_, rfl⟩
      have hxm : x ∈ l := by rw [← hx]; exact List.getElem_mem hlt
      have hok := HT.out.ok x hxm
      have HNX2 : Hid (nextL (csOf R) p ((csOf R).length - p / 4096) (p / 4096) = some (x.2.pay, x.1, x.1 + (x.2.pay.length + 12))) := Lib.hid (by rw [HNX.out, List.getElem?_eq_getElem hlt, hx]; rfl)
      have hbn := between_next HT.out hlt
      rw [hx] at hbn
      have HBN := Lib.hid hbn
      have hxl := HT.out.lt hxm
      have hxp := HT.out.len hxm
      have HX := Lib.hid hx
      have HGET := Lib.hid (fun w' => (show Calls Tryz.prog 94 #[.string ⟨x.2.pay.toArray⟩] w' (GotB x.2.st x.2.first x.2.evs w') from batches_Get x.2.st x.2.first x.2.evs w' (by have := hok.1; unfold streamB at this; exact (decide_eq_true_iff.1 this).1) (by have := hok.2.1; intro e; rw [e] at this; simp at this) (by have := hok.1; unfold streamB at this; exact (decide_eq_true_iff.1 this).2) hok.2.2.1 hok.2.2.2.1 hok.2.2.2.2))
      have hev8 := hok.2.2.1
      have hf5 := hok.2.2.2.1
      clear hx hbn hok HNX
      go_wp2_with fail
      refine (HNEXT.out wr r p HS.out.log hpl).mono ?_
      intro e w1 hp
      obtain ⟨rfl, r2, hl2, hu2⟩ := nextPost_some hp HNX2.out
      have HS2 : Hid (StoreAt w1 b (S.rd r2)) := Lib.hid (StoreAt.turn (S := S.rd r) HS.out hu2 hl2 (fun k hk => .inl hk))
      have HU2 : Hid (Upd (Both S.bl S.L S.D) w w1) := Lib.hid (HU.out.trans hu2)
      have HOWN2 : Hid (w1.ownsRow w.heap.size 79 5 (.slice a4 (tolds (l.take i)).length cap4) (tolds (l.take i)).length (tlCells (tolds (l.take i)))) := Lib.hid (ownsRow_upd HOWN.out hu2 (fun k hk hB => by have h1 := (World.ownsRow.lt HOWN.out _ hk).1; have h2 := HH.out.log.both_lt hB; omega))
      clear hp hl2 hu2 c0
      have hev1 : x.2.evs ≠ [] := by have := HT.out.ok x hxm; intro e; have h2 := this.2.1; rw [e] at h2; simp at h2
      have HEV1 := Lib.hid hev1
      have hTl : (tolds (l.take i)).length + x.2.evs.length ≤ 1000000 := by
        have h1 := HM.out
        have e : tolds l = tolds (l.take i) ++ (tellB x.2 ++ tolds (l.drop (i + 1))) := by
          conv => lhs; rw [← List.take_append_drop i l]
          rw [tolds_append, List.drop_eq_getElem_cons hlt, HX.out]; rfl
        rw [e, List.length_append, List.length_append, tellB_length] at h1; omega
      have HT1 : Hid (tolds (l.take (i + 1)) = tolds (l.take i) ++ tellB x.2) := Lib.hid (by rw [List.take_succ_eq_append_getElem hlt, tolds_append, HX.out]; simp [tolds])
      have hw1 : w.heap.size ≤ w1.heap.size := HU2.out.size
      clear hev1
      generalize tolds (l.take i) = T0 at *
      obtain ⟨xp, st, fi, ev⟩ := x
      simp only at *
      obtain ⟨nx, hnx⟩ : ∃ nx, xp + ((Bt.mk st fi ev).pay.length + 12) = nx := ⟨_, rfl⟩
      have HNXE := Lib.hid hnx
      rw [hnx] at HBN ⊢
      obtain ⟨pay, hpay⟩ : ∃ pay, (Bt.mk st fi ev).pay = pay := ⟨_, rfl⟩
      rw [hpay] at HGET ⊢
      clear hnx hpay hxp HNX2
      go_wp2_with fail
      refine (HGET.out w1).mono ?_
      rintro e w2 ⟨v2, rfl, hown2, hb2⟩
      obtain ⟨a2, cap2, rfl⟩ := ownsRow_slice hown2
      have hev := evsAt_of_row hown2 HEV1.out (by omega)
      obtain ⟨g2, off2, cap2', e2, hg2, -, hcells⟩ := hev
      injection e2 with e2 e3 e4
      subst e2
      have hg1 : w1.heap.size ≤ g2 := (World.ownsRow.lt hown2 _ rfl).1
      have HCE := Lib.hid hcells
      have HS3 := Lib.hid (HS2.out.below hb2)
      have HU3 := Lib.hid (HU2.out.trans (Upd.of_below hb2))
      have HOWN3 := Lib.hid (ownsRow_below HOWN2.out hb2)
      have HOL := Lib.hid (fun k hk => (World.ownsRow.lt HOWN2.out k hk).2)
      have hw2 : w1.heap.size ≤ w2.heap.size := hb2.size
      clear hown2 hb2 hcells e3 e4 HS2 HU2 HOWN2
      go_wp2_with fail
      go_hide hQ
      go_loopw [4, 44] (fun out jv wq => ∃ j : Nat, jv = .int .i64 j ∧ j ≤ ev.length ∧ wq.ownsRow w.heap.size 79 5 out (T0.length + j) (tlCells (T0 ++ (tellB ⟨st, fi, ev⟩).take j)) ∧
          (∀ k, out.ownBlock = some k → k < w1.heap.size ∨ w2.heap.size + 1 ≤ k) ∧ Upd (fun k => w.heap.size ≤ k ∧ k < w1.heap.size) (w2.alloc (.cells #[.string ⟨st.toArray⟩, .int .i64 fi, .slice (some ⟨g2, off2, none⟩) ev.length cap2] 132)) wq) (fun _ jv _ => ev.length - (intOf jv).toNat)
      case atStart => exact ⟨0, rfl, by omega, by rw [List.take_zero, List.append_nil]; exact HOWN3.out.alloc _, fun k hk => .inl (HOL.out k hk), Upd.refl _ _⟩
      case round =>
        obtain ⟨j, rfl, hj, howq, hblk, huq⟩ := hrel
        have HOWQ := Lib.hid howq
        have HBLK := Lib.hid hblk
        have HUQ := Lib.hid huq
        have hk10 := huq.kept (blk_new (w := w2) rfl (.cells #[.string ⟨st.toArray⟩, .int .i64 fi, .slice (some ⟨g2, off2, none⟩) ev.length cap2] 132)) (fun e => by omega)
        have hszq : w2.heap.size + 1 ≤ wr.heap.size := by have := huq.size; simp at this; omega
        have p_c0 : World.cell? wr ⟨w2.heap.size, 0, none⟩ = some (.string ⟨st.toArray⟩) := by rw [cell_of_block hk10]; rfl
        have p_f0 : World.frozen? wr ⟨w2.heap.size, 0, none⟩ = false := frozen_of_block hk10
        have p_c1 : World.cell? wr ⟨w2.heap.size, 1, none⟩ = some (.int .i64 fi) := by rw [cell_of_block hk10]; rfl
        have p_f1 : World.frozen? wr ⟨w2.heap.size, 1, none⟩ = false := frozen_of_block hk10
        have p_c2 : World.cell? wr ⟨w2.heap.size, 2, none⟩ = some (.slice (some ⟨g2, off2, none⟩) ev.length cap2) := by rw [cell_of_block hk10]; rfl
        have p_f2 : World.frozen? wr ⟨w2.heap.size, 2, none⟩ = false := frozen_of_block hk10
        have HK10 := Lib.hid hk10
        clear howq hblk huq hk10 p_f0 p_f1 p_f2 p_c2
        by_cases hjl : j < ev.length
        · obtain ⟨d0, d1, d2⟩ := HCE.out j hjl
          have hfar : wr.heap[g2]? = w2.heap[g2]? := (HUQ.out.block g2 (by simp; omega) (fun e => by omega)).trans (Below.heap_alloc w2 _ g2 hg2)
          have c0 := (World.cell?_of_block hfar : wr.cell? ⟨g2, off2 + j * 3, none⟩ = _).trans d0
          have c1 := (World.cell?_of_block hfar : wr.cell? ⟨g2, off2 + j * 3 + 1, none⟩ = _).trans d1
          have c2 := (World.cell?_of_block hfar : wr.cell? ⟨g2, off2 + j * 3 + 2, none⟩ = _).trans d2
          have hgetj : (tellB ⟨st, fi, ev⟩).take (j + 1) = (tellB ⟨st, fi, ev⟩).take j ++ [⟨st, fi + j, ev[j]⟩] := by
            rw [List.take_succ_eq_append_getElem (by rw [tellB_length]; exact hjl)]
            have := tellB_get ⟨st, fi, ev⟩ j
            rw [List.getElem?_eq_getElem (by rw [tellB_length]; exact hjl), List.getElem?_eq_getElem hjl] at this
            rw [Option.some.inj this]
          have HGJ := Lib.hid hgetj
          obtain ⟨y, hy⟩ : ∃ y, ev[j] = y := ⟨_, rfl⟩
          rw [hy] at c0 c1 c2 HGJ
          have hj0 : (0 : Int) ≤ j := by omega
          have hj1 : (j : Int) < ev.length := by omega
          obtain ⟨i0, hi0, hz0, hz1, hz2⟩ := info_parts Tryz.infoTold
          have I0 := Lib.hid hi0; have I1 := Lib.hid hz0; have I2 := Lib.hid hz1; have I3 := Lib.hid hz2
          have e0 : World.cell? (wr.alloc (.cells #[.string ⟨y.ty.toArray⟩, .string ⟨y.da.toArray⟩, .float .f64 y.wt] 77)) ⟨w2.heap.size, 0, none⟩ = some (.string ⟨st.toArray⟩) := by rw [cell_of_block (blk_alloc HK10.out)]; rfl
          have e1 : World.cell? (wr.alloc (.cells #[.string ⟨y.ty.toArray⟩, .string ⟨y.da.toArray⟩, .float .f64 y.wt] 77)) ⟨w2.heap.size, 1, none⟩ = some (.int .i64 fi) := by rw [cell_of_block (blk_alloc HK10.out)]; rfl
          clear d0 d1 d2 hfar hgetj hy hi0 hz0 hz1 hz2 p_c0 p_c1
          go_wp2_with (at_builtin; refine wpList_append_lies _ rfl _ _ 22 rfl w.heap.size 79 i0 _ 5 64 Tryz.underlying22 I0.out I1.out I2.out I3.out rfl (by decide) _ _ _ rfl ((HOWQ.out.alloc _).alloc _) ⟨wr.heap.size + 1, 0, none⟩ 1 1 (Tl.cells ⟨st, fi + j, y⟩) rfl rfl ?c1 ?c2 ?c3 ?c4 ?c5 ?c6 (wr.heap.size + 1 + 1) ?c7 ?_)
          case c1 => exact news_alloc (by simp) (Tl.cells ⟨st, fi + j, y⟩) 79
          case c2 => intro u hu; simp only [Tl.cells, List.mem_cons, List.mem_nil_iff, or_false] at hu; rcases hu with rfl | rfl | rfl | rfl | rfl <;> rfl
          case c3 => omega
          case c4 => unfold maxLen; omega
          case c5 => omega
          case c6 => simp; omega
          case c7 => simp
          intro gg cap5 w5 hown5 hgrow5 hat5 hlt5
          have HOW5 : Hid (w5.ownsRow w.heap.size 79 5 (.slice (some ⟨gg, 0, none⟩) (T0.length + j + 1) cap5) (T0.length + (j + 1)) (tlCells (T0 ++ (tellB ⟨st, fi, ev⟩).take (j + 1)))) := Lib.hid (by
            rw [HGJ.out, ← List.append_assoc, tlCells_snoc, ← Nat.add_assoc]
            exact hown5)
          have HBL5 : Hid (∀ k, (Value.slice (some ⟨gg, 0, none⟩) (T0.length + j + 1) cap5).ownBlock = some k → k < w1.heap.size ∨ w2.heap.size + 1 ≤ k) := Lib.hid (fun k hk => by
            have e : gg = k := by simpa [Value.ownBlock] using hk
            subst e
            rcases hat5 with e | e
            · exact HBLK.out _ e
            · exact .inr (by omega))
          have HUQ5 : Hid (Upd (fun k => w.heap.size ≤ k ∧ k < w1.heap.size) (w2.alloc (.cells #[.string ⟨st.toArray⟩, .int .i64 fi, .slice (some ⟨g2, off2, none⟩) ev.length cap2] 132)) w5) := Lib.hid (((HUQ.out.alloc _).alloc _).then (Upd.of_grown hgrow5) (fun k hk => by
            have h1 := (World.ownsRow.lt HOWQ.out _ hk).1
            rcases HBLK.out k hk with h2 | h2
            · exact .inl ⟨h1, h2⟩
            · exact .inr (by simp; exact h2)))
          clear hown5 hgrow5 hat5 hlt5 c0 c1 c2 e0 e1
          go_wp2_with fail
          go_roundw
          case rel => exact ⟨j + 1, by go_num, by omega, HOW5.out, HBL5.out, HUQ5.out⟩
          case measure => simp [intOf]; omega
        · obtain rfl : j = ev.length := by omega
          have HS6 : Hid (StoreAt wr b (S.rd r2)) := Lib.hid ((HS3.out.below ((Below.refl _ _).alloc (Nat.le_refl _) _)).kept HUQ.out (fun k hk e => by have := HH.out.has_lt hk; omega))
          have HU6 : Hid (Upd (Both S.bl S.L S.D) w wr) := Lib.hid ((HU3.out.alloc _).then HUQ.out (fun k hk => .inr hk.1))
          have HOW6 : Hid (wr.ownsRow w.heap.size 79 5 u4 (tolds (l.take (i + 1))).length (tlCells (tolds (l.take (i + 1))))) := Lib.hid (by
            have h1 := HOWQ.out
            rw [List.take_of_length_le (by rw [tellB_length]; exact Nat.le_refl _)] at h1
            rw [HT1.out, List.length_append, tellB_length]
            exact h1)
          have hgk : l.length - (i + 1) < gk := by have := HG.out; omega
          clear p_c0 p_c1
          go_wp2_with fail
          subst hQ
          go_wp2_with fail
          go_roundg (l.length - (i + 1))
          case measure => exact hgk
          case rel => exact ⟨i + 1, nx, r2, rfl, by omega, HBN.out, rfl, HOW6.out, HS6.out, HU6.out⟩
    · obtain rfl : i = l.length := by omega
      have HNX2 : Hid (nextL (csOf R) p ((csOf R).length - p / 4096) (p / 4096) = none) := Lib.hid (by rw [HNX.out, List.getElem?_eq_none (Nat.le_refl _)]; rfl)
      go_wp2_with fail
      refine (HNEXT.out wr r p HS.out.log hpl).mono ?_
      intro e w1 hp
      obtain ⟨rfl, r2, hl2, hu2⟩ := nextPost_none hp HNX2.out
      have HS2 : Hid (StoreAt w1 b (S.rd r2)) := Lib.hid (StoreAt.turn (S := S.rd r) HS.out hu2 hl2 (fun k hk => .inl hk))
      have HU2 : Hid (Upd (Both S.bl S.L S.D) w w1) := Lib.hid (HU.out.trans hu2)
      have HOWN2 : Hid (w1.ownsRow w.heap.size 79 5 (.slice a4 (tolds (l.take l.length)).length cap4) (tolds (l.take l.length)).length (tlCells (tolds (l.take l.length)))) := Lib.hid (ownsRow_upd HOWN.out hu2 (fun k hk hB => by have h1 := (World.ownsRow.lt HOWN.out _ hk).1; have h2 := HH.out.log.both_lt hB; omega))
      clear hp hl2 hu2 c0 HNX HNX2
      go_wp2_with fail
      go_ret2
      have HO := HOWN2.out
      rw [List.take_length] at HO
      exact ⟨_, r2, rfl, HO, HS2.out, HU2.out⟩
end Go.Proofs.YtamlhndibcafgaaGreatDoor
