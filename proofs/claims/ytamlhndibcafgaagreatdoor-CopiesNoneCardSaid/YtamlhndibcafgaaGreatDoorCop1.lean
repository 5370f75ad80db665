/- Contracts of copies.Load, Dump, of no store and of one that has something; of chapter 31's Opened. Chapter 35's example, walked. -/
import Derived.Test.YtamlhndibcafgaaGreatDoorCopPut
import Derived.Test.YtamlhndibcafgaaGreatDoorStore2
namespace Go.Proofs.YtamlhndibcafgaaGreatDoor
open Go.RowKit Go.MapKept

set_option maxHeartbeats 1000000 in
theorem store_All_nil (w : World) : Calls Tryz.prog 57 #[.pointer none] w fun e w' => e = .returned (.tuple #[.slice none 0 0, .int .i64 1]) ∧ w = w' := by
  go_enter Tryz.func57, Tryz.ntmps57
  go_wp2_with fail
  refine (store_none_nil w).mono ?_
  rintro e w1 ⟨rfl, rfl⟩
  go_wp2_with fail
  go_ret2
  exact ⟨rfl, rfl⟩
set_option maxHeartbeats 1000000 in
theorem copies_Dump_nil (w : World) : Calls Tryz.prog 14 #[.pointer none] w fun e w' => e = .returned (.tuple #[.string ⟨#[]⟩, .int .i64 1]) ∧ w = w' := by
  go_enter Tryz.func14, Tryz.ntmps14
  go_wp2_with fail
  refine (store_All_nil w).mono ?_
  rintro e w1 ⟨rfl, rfl⟩
  go_wp2_with fail
  go_ret2
  exact ⟨rfl, rfl⟩
theorem getPost_none {w w' : World} {s : List UInt8} {e : Ending} (h : GetPost w s e w') (hg : getC s = none) : e = .returned (.tuple #[.slice none 0 0, .int .i64 10]) ∧ Below w.heap.size w w' := by
  unfold GetPost at h; rw [hg] at h; exact ⟨h.2, h.1⟩
theorem getPost_some {w w' : World} {s : List UInt8} {e : Ending} {l : List Tl} (h : GetPost w s e w') (hg : getC s = some l) : ∃ v, e = .returned (.tuple #[v, .int .i64 0]) ∧ w'.ownsRow w.heap.size 79 5 v l.length (tlCells l) ∧ Below w.heap.size w w' := by
  unfold GetPost at h; rw [hg] at h
  obtain ⟨h1, v, h2, h3, -⟩ := h
  exact ⟨v, h2, h3, h1⟩
set_option maxHeartbeats 1000000 in
theorem copies_Load_bad (sv : Value) (s : List UInt8) (w : World) (hs : s.length ≤ 1048576) (hg : getC s = none) :
    Calls Tryz.prog 15 #[sv, .string ⟨s.toArray⟩] w fun e w' => e = .returned (.tuple #[.int .i64 0, .int .i64 10]) ∧ Below w.heap.size w w' := by
  have HG := Lib.hid hg
  clear hg
  go_enter Tryz.func15, Tryz.ntmps15
  go_wp2_with fail
  refine (copies_Get s w hs).mono ?_
  intro e w1 hp
  obtain ⟨rfl, hb⟩ := getPost_none hp HG.out
  clear hp
  go_wp2_with fail
  go_ret2
  exact ⟨rfl, hb⟩
set_option maxHeartbeats 1000000 in
theorem copies_Load_nil (s : List UInt8) (l : List Tl) (w : World) (hs : s.length ≤ 1048576) (hg : getC s = some l) :
    Calls Tryz.prog 15 #[.pointer none, .string ⟨s.toArray⟩] w fun e w' => e = .returned (.tuple #[.int .i64 0, .int .i64 1]) ∧ Below w.heap.size w w' := by
  have HG := Lib.hid hg
  clear hg
  go_enter Tryz.func15, Tryz.ntmps15
  go_wp2_with fail
  refine (copies_Get s w hs).mono ?_
  intro e w1 hp
  obtain ⟨v, rfl, -, hb⟩ := getPost_some hp HG.out
  clear hp
  go_wp2_with fail
  refine (store_All_nil w1).mono ?_
  rintro e w2 ⟨rfl, rfl⟩
  go_wp2_with fail
  go_ret2
  exact ⟨rfl, hb⟩
def LoadPost (b : Nat) (S : St) (w : World) (e : Ending) (w' : World) : Prop :=
  e = .returned (.tuple #[.int .i64 0, .int .i64 62]) ∧ ∃ r, StoreAt w' b (S.rd r) ∧ Upd (Both S.bl S.L S.D) w w'
set_option maxHeartbeats 1000000 in
theorem copies_Load_have (b : Nat) (S : St) (R : Pays) (l : Recs) (s : List UInt8) (t : List Tl) (w : World) (hs : s.length ≤ 1048576) (hg : getC s = some t)
    (h : StoreAt w b S) (hl : S.L.live S.D) (hc : Chunks S.L S.D (csOf R)) (ht : Told R l) (hm : (tolds l).length ≤ 1000000) (hne : 0 < (tolds l).length) :
    Calls Tryz.prog 15 #[.pointer (some ⟨b, 0, none⟩), .string ⟨s.toArray⟩] w (LoadPost b S w) := by
  have HG := Lib.hid hg
  have HH := Lib.hid h
  have HALL := Lib.hid (fun w' h' => store_All b S R l w' h' hl hc ht hm)
  clear hg h hl hc ht
  go_enter Tryz.func15, Tryz.ntmps15
  go_wp2_with fail
  refine (copies_Get s w hs).mono ?_
  intro e w1 hp
  obtain ⟨v, rfl, -, hb⟩ := getPost_some hp HG.out
  have HB := Lib.hid hb
  clear hp hb
  go_wp2_with fail
  refine (HALL.out w1 (HH.out.below HB.out)).mono ?_
  rintro e w2 ⟨v2, r, rfl, hown, hs2, hu2⟩
  obtain ⟨a2, cap2, rfl⟩ := ownsRow_slice hown
  have HS2 := Lib.hid hs2
  have HU2 := Lib.hid ((Upd.of_below HB.out).trans hu2)
  clear hown hs2 hu2
  generalize (tolds l).length = n at *
  go_wp2_with fail
  go_ret2
  exact ⟨rfl, r, HS2.out, HU2.out⟩
/-- A store on a fresh disk. -/
def OpenedPost31 (seed rate : Nat) (w : World) (e : Ending) (w' : World) : Prop :=
  ∃ bd b bl bx bm bt bM k, e = .returned (.tuple #[.pointer (some ⟨bd, 0, none⟩), .pointer (some ⟨b, 0, none⟩), .bool true]) ∧
    StoreAt w' b (freshSt bd bl bx bm bt seed rate 0 ((freshDk bM 1048576).rd k)) ∧ Below w.heap.size w w' ∧ ∀ j, (freshSt bd bl bx bm bt seed rate 0 ((freshDk bM 1048576).rd k)).has b j → w.heap.size ≤ j
set_option maxRecDepth 100000 in
set_option maxHeartbeats 1000000 in
theorem law31_Opened (seed rate room : Nat) (w : World) : Calls Tryz.prog 30 #[.agg #[.int .u64 seed, .float .f64 rate, .int .u16 room]] w (OpenedPost31 seed rate w) := by
  have hB := (Below.refl w.heap.size w).alloc (Nat.le_refl _) (.cells #[.int .u64 seed, .float .f64 rate, .int .u16 room] 83)
  have hk := blk_new (w := w) rfl (.cells #[.int .u64 seed, .float .f64 rate, .int .u16 room] 83)
  obtain ⟨W, hW⟩ : ∃ W, w.alloc (.cells #[.int .u64 seed, .float .f64 rate, .int .u16 room] 83) = W := ⟨_, rfl⟩
  rw [hW] at hB hk
  have HW := Lib.hid hW
  have HB := Lib.hid hB
  have HK := Lib.hid hk
  have HSZ : Hid (W.heap.size = w.heap.size + 1) := Lib.hid (by rw [← hW]; simp)
  clear hB hk hW
  go_enter Tryz.func30, Tryz.ntmps30
  go_wp2_with fail
  rw [HW.out]
  refine (disk_New 1048576 W (by omega)).mono ?_
  rintro e w1 ⟨rfl, hd, hb1⟩
  have HD := Lib.hid hd
  have HB1 := Lib.hid hb1
  have hk1 := blk_kept hb1 HK.out
  have p_c0 : World.cell? w1 ⟨w.heap.size, 0, none⟩ = some (.int .u64 seed) := by rw [cell_of_block hk1]; rfl
  have p_f0 : World.frozen? w1 ⟨w.heap.size, 0, none⟩ = false := frozen_of_block hk1
  have p_c1 : World.cell? w1 ⟨w.heap.size, 1, none⟩ = some (.float .f64 rate) := by rw [cell_of_block hk1]; rfl
  have p_f1 : World.frozen? w1 ⟨w.heap.size, 1, none⟩ = false := frozen_of_block hk1
  have p_c2 : World.cell? w1 ⟨w.heap.size, 2, none⟩ = some (.int .u16 room) := by rw [cell_of_block hk1]; rfl
  have p_f2 : World.frozen? w1 ⟨w.heap.size, 2, none⟩ = false := frozen_of_block hk1
  clear hd hb1 hk1 p_f0 p_f1 p_f2 p_c2
  have HO := Lib.hid (store_Open_none (W.heap.size + 1) (freshDk W.heap.size 1048576) w1 seed rate HD.out rfl rfl)
  go_wp2_with fail
  refine HO.out.mono ?_
  rintro e w2 ⟨b, bl, bx, bm, bt, k, rfl, hb, hst, hu, hbl, hbx, hbm⟩
  have HST := Lib.hid hst
  have hs1 := HB.out.size
  have hs2 := HB1.out.size
  have HB2 : Hid (Below w.heap.size w w2) := Lib.hid (HB.out.trans ((HB1.out.mono hs1).trans (hu.below (by omega) (fun j hj => by
    have h0 := HSZ.out
    rcases hj with e | e | ⟨f, hf, -⟩
    · omega
    · have e' : j = W.heap.size := e; omega
    · cases hf))))
  clear hst hu p_c0 p_c1
  go_wp2_with fail
  go_ret3
  refine ⟨W.heap.size + 1, b, bl, bx, bm, bt, W.heap.size, k, rfl, HST.out, HB2.out, fun j hj => ?_⟩
  have h0 := HSZ.out
  rcases hj with e | e | e
  · omega
  · rcases e with e | e
    · rcases e with e | e
      · have e' : j = bl := e; omega
      · cases e
    · rcases e with e | e | ⟨f, hf, -⟩
      · have e' : j = W.heap.size + 1 := e; omega
      · have e' : j = W.heap.size := e; omega
      · cases hf
  · rcases e with e | e | e
    · have e' : j = bx := e; omega
    · have e' : j = bm := e; omega
    · cases e
end Go.Proofs.YtamlhndibcafgaaGreatDoor

namespace Go.Proofs.YtamlhndibcafgaaGreatDoor
open Go.RowKit Go.MapKept

/-- The log behind its first record. -/
def FirstQ (S : St) (p : List UInt8) (L' : Lg) (D' : Dk) : Prop := ∃ r fb dv sv, L' = S.L.push sv (12 + (recL p).length) ∧ D' = (S.D.rd r).begun 0 fb dv (recL p)
theorem has_begun {D : Dk} {n fb bd k : Nat} {dv : Value} {r : List UInt8} (h : (D.begun n fb dv r).has bd k) : D.has bd k ∨ k = fb ∨ dv.ownBlock = some k := by
  rcases h with e | e | ⟨f, hf, e⟩
  · exact .inl (.inl e)
  · exact .inl (.inr (.inl e))
  · have hf' : f ∈ (D.files ++ [newFl (chunkL n) fb D.clk]).map (fun g => if g.name = ((newFl (chunkL n) fb D.clk).more dv (headL n ++ r)).name then (newFl (chunkL n) fb D.clk).more dv (headL n ++ r) else g) := hf
    obtain ⟨g, hg, rfl⟩ := List.mem_map.1 hf'
    by_cases hn : g.name = ((newFl (chunkL n) fb D.clk).more dv (headL n ++ r)).name
    · rw [if_pos hn] at e
      rcases e with e | e
      · exact .inr (.inl e)
      · exact .inr (.inr e)
    · rw [if_neg hn] at e
      rcases List.mem_append.1 hg with hg | hg
      · exact .inl (.inr (.inr ⟨g, hg, e⟩))
      · have : g = newFl (chunkL n) fb D.clk := by simpa using hg
        subst this
        exact absurd rfl hn
theorem first_log (S : St) (p : List UInt8) (hl : S.L.live S.D) (h0 : S.L.sizes = []) (hp : p.length ≤ 2000) (he : S.D.files = []) (hfa : S.D.fails = false) (hroom : 6000 + (12 + (recL p).length) + S.D.used ≤ S.D.cap) (r : Int) (w : World) (h : LogOn w S.bl S.L (S.D.rd r)) :
    Calls Tryz.prog 82 #[.pointer (some ⟨S.bl, 0, none⟩), .string ⟨p.toArray⟩] w (LogAppPost S (FirstQ S p) 12 w) := by
  refine (tflog_Append_first S.bl S.L (S.D.rd r) w p h hl h0 hp (find_empty he _) (by show S.D.files.length < 400; rw [he]; simp) hfa hroom).mono ?_
  rintro e w' ⟨rfl, fb, dv, sv, hfb, hdv, hsv, hlog, hu⟩
  refine ⟨rfl, _, _, ⟨r, fb, dv, sv, rfl, rfl⟩, hlog, hu, fun k hk => ?_⟩
  rcases hk with hk | hk
  · rcases hk with e | e
    · exact .inl (.inl (.inl e))
    · exact (hsv k e).imp (fun e => .inl (.inr e)) id
  · rcases has_begun hk with e | e | e
    · exact .inl (.inr e)
    · exact .inr (by omega)
    · exact .inr (hdv k e)
theorem first_chunks (S : St) (p : List UInt8) (h0 : S.L.sizes = []) (he : S.D.files = []) {L' : Lg} {D' : Dk} (hq : FirstQ S p L' D') : Chunks L' D' (csOf [[p]]) := by
  obtain ⟨r, fb, dv, sv, rfl, rfl⟩ := hq
  have hsz : (S.L.push sv (12 + (recL p).length)).sizes = [12 + (recL p).length] := by show S.L.sizes ++ _ = _; rw [h0]; rfl
  have hfile : ((S.D.rd r).begun 0 fb dv (recL p)).find (chunkL 0) = some ((newFl (chunkL 0) fb S.D.clk).more dv (headL 0 ++ recL p)) := by
    show List.find? _ ((S.D.files ++ [newFl (chunkL 0) fb S.D.clk]).map _) = _
    rw [he]
    simp [newFl, Fl.more]
    rfl
  refine ⟨by rw [hsz]; rfl, fun i s hi => ?_⟩
  rw [csOf_get] at hi
  cases i with
  | zero =>
    have hs : chunkB 0 [p] = s := by simpa using hi
    subst hs
    refine ⟨by rw [hsz]; simp [chunkB, recsL], by unfold chunkB; exact prefB_append _ _, _, hfile, ?_⟩
    simp [Fl.more, newFl, chunkB, recsL]
  | succ i => simp at hi
/-- The chapter's event, its batch, its payload. -/
def evT : Ev := ⟨[116], [], 0⟩
def payT : List UInt8 := putB [115] 0 [evT]
theorem evT_ok : EvOk evT := ⟨by decide, by decide⟩
theorem payT_len : payT.length = 25 := by decide +kernel
theorem told_first : Told [[payT]] [(12, ⟨[115], 0, [evT]⟩)] := by
  refine ⟨⟨by simp, fun ps hp => ?_⟩, ?_, fun x hx => ?_, fun pre x post e => ?_⟩
  · have : ps = [payT] := by simpa using hp
    subst this
    refine ⟨by rw [bytesOf_one, payT_len]; omega, fun p hp => ?_⟩
    have : p = payT := by simpa using hp
    rw [this, payT_len]; omega
  · simp [allR, allFrom, recAt, Bt.pay, payT]
  · have : x = (12, ⟨[115], 0, [evT]⟩) := by simpa using hx
    subst this
    refine ⟨by decide, by simp, by simp, by simp, fun e he => ?_⟩
    have : e = evT := by simpa using he
    rw [this]; exact evT_ok
  · have h1 : pre = [] := by
      cases pre with
      | nil => rfl
      | cons a pre => simp at e
    subst h1
    have h2 : x = (12, ⟨[115], 0, [evT]⟩) := by simpa using (List.cons.inj e).1.symm
    subst h2
    rfl
theorem putC_nil : putC [] = (sealL (markL ++ be 4 0 ++ []), 0) := rfl
theorem putC_bad : putC [⟨[115], 1, evT⟩] = ([], 2) := by decide +kernel
/-- The empty copy. -/
def emptyC : List UInt8 := sealL (markL ++ be 4 0 ++ [])
theorem emptyC_len : emptyC.length = 17 := by simp [emptyC, markL]
theorem emptyC_take : emptyC.take 13 = [97, 110, 110, 97, 108, 105, 115, 116, 10, 0, 0, 0, 0] := by
  unfold emptyC sealL
  rw [List.take_append_of_le_length (by simp [markL])]
  decide
theorem emptyC_get : getC emptyC = some [] := by
  unfold getC emptyC
  rw [openL_seal]
  dsimp only
  rw [if_pos (by constructor <;> decide), show beN (List.take 4 (List.drop 9 (markL ++ be 4 0 ++ []))) = 0 by decide, getN, show List.drop 4 (List.drop 9 (markL ++ be 4 0 ++ [])) = [] by decide]
  rfl
theorem put_bad (w : World) (g : Nat) (hg : w.heap[g]? = some (.cells #[.string ⟨[115].toArray⟩, .int .i64 1, .string ⟨[116].toArray⟩, .string ⟨#[]⟩, .float .f64 0] 79)) :
    Calls Tryz.prog 9 #[.slice (some ⟨g, 0, none⟩) 1 1] w fun e w' => e = .returned (.tuple #[.string ⟨#[]⟩, .int .i64 2]) ∧ Below w.heap.size w w' := by
  have h := copies_Put [⟨[115], 1, evT⟩] (.slice (some ⟨g, 0, none⟩) 1 1) w ⟨some ⟨g, 0, none⟩, 1, rfl, by simp, fun i hi => ⟨g, 0, rfl, blk_lt hg, by
    have e : i = 0 := by simpa using hi
    subst e
    exact ⟨by rw [cell_of_block hg]; rfl, by rw [cell_of_block hg]; rfl, by rw [cell_of_block hg]; rfl, by rw [cell_of_block hg]; rfl, by rw [cell_of_block hg]; rfl⟩⟩⟩
    (fun x hx => by
      have : x = ⟨[115], 1, evT⟩ := by simpa using hx
      subst this
      simp [evT])
  refine h.mono ?_
  rintro e w' ⟨h1, h2⟩
  rw [putC_bad] at h1
  exact ⟨h1, h2⟩
/-- The first event of a store that has nothing. -/
theorem append_first (b : Nat) (S : St) (f1 : S.seed = 0) (f2 : S.X.ents = []) (f3 : S.L.sizes = []) (f4 : S.D.files = []) (f5 : S.L.live S.D) (f6 : S.D.fails = false) (f7 : S.D.used = 0 ∧ S.D.cap = 1048576)
    (w : World) (h : StoreAt w b S) (g : Nat) (hg : w.heap[g]? = some (.cells #[.string ⟨[116].toArray⟩, .string ⟨#[]⟩, .float .f64 0] 77)) (hgn : ¬ S.has b g) :
    Calls Tryz.prog 31 #[.pointer (some ⟨b, 0, none⟩), .string ⟨[115].toArray⟩, .int .i64 (-1), .slice (some ⟨g, 0, none⟩) 1 1] w (StAppPost b S (FirstQ S payT) 7 0 12 1 w) := by
  have hev : EvsAt w (.slice (some ⟨g, 0, none⟩) 1 1) [evT] := ⟨g, 0, 1, rfl, blk_lt hg, by simp, fun i hi => by
    have e : i = 0 := by simpa using hi
    subst e
    exact ⟨by rw [cell_of_block hg]; rfl, by rw [cell_of_block hg]; rfl, by rw [cell_of_block hg]; rfl⟩⟩
  have hvo : ∀ k, (Value.slice (some ⟨g, 0, none⟩) 1 1).ownBlock = some k → ¬ S.has b k := fun k hk => by
    have e : g = k := by simpa [Value.ownBlock] using hk
    subst e
    exact hgn
  have hok : ∀ e ∈ [evT], EvOk e := fun e he => by
    have : e = evT := by simpa using he
    rw [this]; exact evT_ok
  exact store_Append b S (FirstQ S payT) 7 0 12 (-1) [115] [evT] (.slice (some ⟨g, 0, none⟩) 1 1) w h hev hvo
    (by simp) (by simp) (by simp) (by simp) (by simp) hok
    (.inr (by decide))
    (fun w' h' => (store_Last_nil b S [115] w' h' f2 f1 (by decide) (by simp)).mono fun e w'' hh => ⟨hh.1, S.D.reads, h'.below hh.2, Upd.of_below hh.2⟩)
    (fun r w' hl => first_log S payT f5 f3 (by rw [payT_len]; omega) f4 f6 (by rw [recL_length, payT_len, f7.1, f7.2]; omega) r w' hl)
    (fun w' => by rw [f1]; exact hashes_Hash0 [115] w')
    (by omega) (by omega) (by rw [f2]; simp)
    (fun k hk => by
      have e : k = 0 := by simpa using hk
      subst e
      rw [entsN, f2]
      exact ⟨List.Pairwise.nil, by simp⟩)
set_option maxRecDepth 100000 in
set_option maxHeartbeats 4000000 in
theorem law35_copied (w : World) : Calls Tryz.prog 8 #[] w fun e w' => e = .returned (.bool true) ∧ Below w.heap.size w w' := by
  have HP0 : Hid (∀ w', Calls Tryz.prog 9 #[.slice none 0 0] w' fun e w'' => e = .returned (.tuple #[.string ⟨emptyC.toArray⟩, .int .i64 0]) ∧ Below w'.heap.size w' w'') :=
    Lib.hid (fun w' => copies_Put [] (.slice none 0 0) w' ⟨none, 0, rfl, by simp, fun i h => by simp at h⟩ (fun x hx => by simp at hx))
  have HE1 := Lib.hid emptyC_len
  have HE2 := Lib.hid emptyC_take
  have HE3 := Lib.hid emptyC_get
  obtain ⟨a, ha⟩ : ∃ a, emptyC = a := ⟨_, rfl⟩
  rw [ha] at HP0 HE1 HE2 HE3
  clear ha
  go_enter Tryz.func8, Tryz.ntmps8
  go_wp2_with fail
  refine (law31_Opened 0 0 0 w).mono ?_
  rintro e w1 ⟨bd, b, bl, bx, bm, bt, bM, k, rfl, hst, hb1, hge⟩
  obtain ⟨S, hS⟩ : ∃ S, freshSt bd bl bx bm bt 0 0 0 ((freshDk bM 1048576).rd k) = S := ⟨_, rfl⟩
  have f1 : S.seed = 0 := by rw [← hS]; rfl
  have f2 : S.X.ents = [] := by rw [← hS]; rfl
  have f3 : S.L.sizes = [] := by rw [← hS]; rfl
  have f4 : S.D.files = [] := by rw [← hS]; rfl
  have f5 : S.L.live S.D := by rw [← hS]; exact ⟨rfl, rfl, rfl⟩
  have f6 : S.D.fails = false := by rw [← hS]; rfl
  have f7 : S.D.used = 0 ∧ S.D.cap = 1048576 := by rw [← hS]; exact ⟨rfl, rfl⟩
  rw [hS] at hst hge
  have F := Lib.hid (⟨f1, f2, f3, f4, f5, f6, f7⟩ : S.seed = 0 ∧ S.X.ents = [] ∧ S.L.sizes = [] ∧ S.D.files = [] ∧ S.L.live S.D ∧ S.D.fails = false ∧ S.D.used = 0 ∧ S.D.cap = 1048576)
  have HS := Lib.hid hst
  have HB1 := Lib.hid hb1
  have HGE := Lib.hid hge
  clear hS f1 f2 f3 f4 f5 f6 f7 hst hb1 hge
  go_wp2_with fail
  refine (HP0.out w1).mono ?_
  rintro e w2 ⟨rfl, hb2⟩
  have HS2 := Lib.hid (HS.out.below hb2)
  have HB2 := Lib.hid (HB1.out.trans (hb2.mono HB1.out.size))
  clear hb2
  go_wp2_with fail
  refine (put_bad _ w2.heap.size (heap_alloc_new w2 _)).mono ?_
  rintro e w3 ⟨rfl, hb3⟩
  have hbb : Below w2.heap.size w2 w3 := below_after hb3
  have HS3 := Lib.hid (HS2.out.below hbb)
  have HB3 := Lib.hid (HB2.out.trans (hbb.mono HB2.out.size))
  clear hb3 hbb
  go_wp2_with fail
  have HS4 := Lib.hid (HS3.out.below ((Below.refl _ _).alloc (Nat.le_refl _) (.cells #[.string ⟨[116].toArray⟩, .string ⟨#[]⟩, .float .f64 0] 77)))
  obtain ⟨f1, f2, f3, f4, f5, f6, f7⟩ := F.out
  refine (append_first b S f1 f2 f3 f4 f5 f6 f7 _ HS4.out w3.heap.size (heap_alloc_new w3 _) (fun h => by have := HS3.out.has_lt h; omega)).mono ?_
  rintro e w5 ⟨rfl, L', D', X', hQ, hX, hs5, hu5, hg5⟩
  have HCH := Lib.hid (first_chunks S payT f3 f4 hQ)
  have HLV : Hid (L'.live D') := Lib.hid (by
    obtain ⟨r, fb, dv, sv, rfl, rfl⟩ := hQ
    exact f5)
  have HS5 := Lib.hid hs5
  have HB5 : Hid (Below w.heap.size w w5) := Lib.hid ((HB3.out.alloc HB3.out.size _).trans (hu5.below (by have := HB3.out.size; simp; omega) HGE.out))
  have HG5 : Hid (∀ j, (S.app L' D' X').has b j → w.heap.size ≤ j) := Lib.hid (fun j hj => (hg5 j hj).elim (HGE.out j) (fun e => by have := HB3.out.size; simp at e; omega))
  clear f1 f2 f3 f4 f5 f6 f7 hQ hX hs5 hu5 hg5
  have HLD := Lib.hid (copies_Load_have b (S.app L' D' X') [[payT]] [(12, ⟨[115], 0, [evT]⟩)] a [] w5 (by rw [HE1.out]; omega) HE3.out HS5.out HLV.out HCH.out told_first (by simp [tolds, tellB]) (by simp [tolds, tellB]))
  go_wp2_with fail
  refine HLD.out.mono ?_
  rintro e w6 ⟨rfl, r, hs6, hu6⟩
  have HB6 : Hid (Below w.heap.size w w6) := Lib.hid (HB5.out.trans (hu6.below HB5.out.size (fun j hj => HG5.out j (.inr (.inl hj)))))
  clear hs6 hu6
  have h17 : ((a.length : Int) == 17) = true := by rw [HE1.out]; rfl
  have hle : ¬ (a.length : Int) < 13 := by rw [HE1.out]; omega
  have h13 := HE2.out
  go_wp2_with fail
  go_ret
  exact ⟨rfl, HB6.out⟩
end Go.Proofs.YtamlhndibcafgaaGreatDoor
