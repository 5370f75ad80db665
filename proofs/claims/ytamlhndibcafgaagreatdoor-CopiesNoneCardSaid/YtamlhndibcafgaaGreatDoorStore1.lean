/- Contract of store.Append, out of what its log, its index and its Last do. -/
import Derived.Test.YtamlhndibcafgaaGreatDoorIdx3
import Derived.Test.YtamlhndibcafgaaGreatDoorMem1
import Derived.Test.YtamlhndibcafgaaGreatDoorTflog7
namespace Go.Proofs.YtamlhndibcafgaaGreatDoor
open Go.RowKit Go.MapKept

theorem EvsAt.kept {S : Nat → Prop} {w w' : World} {v : Value} {l : List Ev} (h : EvsAt w v l) (hu : Upd S w w') (hn : ∀ k, v.ownBlock = some k → ¬ S k) : EvsAt w' v l := by
  obtain ⟨b, off, cap, rfl, hb, hl, hc⟩ := h
  have hk := hu.block b hb (hn b rfl)
  refine ⟨b, off, cap, rfl, Nat.lt_of_lt_of_le hb hu.size, hl, fun i hi => ?_⟩
  have q := fun (o : Nat) => (World.cell?_of_block hk : w'.cell? ⟨b, o, none⟩ = w.cell? ⟨b, o, none⟩)
  exact ⟨(q _).trans (hc i hi).1, (q _).trans (hc i hi).2.1, (q _).trans (hc i hi).2.2⟩
theorem EvsAt.below {w w' : World} {v : Value} {l : List Ev} (h : EvsAt w v l) (hb : Below w.heap.size w w') : EvsAt w' v l := by
  have h0 := h
  obtain ⟨b, off, cap, rfl, hlt, -, -⟩ := h0
  exact h.kept (S := fun _ => False) (Upd.of_below hb) (fun _ _ h => h)
theorem StoreAt.kept {U : Nat → Prop} {w w' : World} {b : Nat} {S : St} (h : StoreAt w b S) (hu : Upd U w w') (hn : ∀ k, S.has b k → ¬ U k) : StoreAt w' b S where
  blk := hu.kept h.blk (hn _ (.inl rfl))
  log := h.log.kept hu (fun k hk => hn k (.inr (.inl hk)))
  ix := h.ix.kept hu (fun k hk => hn k (.inr (.inr hk)))
  apart := h.apart
  self := h.self
  seed := h.seed
def St.rd (S : St) (r : Int) : St := { S with D := S.D.rd r }
/-- The index turned, the log did not. -/
theorem StoreAt.turnX {w w' : World} {b : Nat} {S : St} {X' : Ix} (h : StoreAt w b S) (hu : Upd (· = S.X.bm) w w') (hx : IxAt w' S.bx X') (hs : X'.seed = S.X.seed) (hh : ∀ k, X'.has S.bx k → S.X.has S.bx k ∨ w.heap.size ≤ k) : StoreAt w' b { S with X := X' } where
  blk := hu.kept h.blk (fun e => h.self.2 (.inr (.inl e)))
  log := h.log.kept hu (fun k hk e => h.apart k (.inr (.inl e)) hk)
  ix := hx
  apart := fun k hk hB => by
    rcases hh k hk with e | e
    · exact h.apart k e hB
    · have := h.log.both_lt hB; omega
  self := ⟨h.self.1, fun hX => by
    rcases hh b hX with e | e
    · exact h.self.2 e
    · have := blk_lt h.blk; omega⟩
  seed := hs.trans h.seed
/-- Entries with so many more. -/
def entsN (E : List En) (h f p : Nat) : Nat → List En
  | 0 => E
  | n + 1 => insE (entsN E h f p n) ⟨h, f + n, p⟩
theorem entsN_length (E : List En) (h f p : Nat) (n : Nat) : (entsN E h f p n).length = E.length + n := by
  induction n with
  | zero => rfl
  | succ n ih => rw [entsN, insE_length, ih]; omega
def St.app (S : St) (L : Lg) (D : Dk) (X : Ix) : St := { S with L := L, D := D, X := X }
/-- What an Append comes to: Q says what became of log and disk. -/
def StAppPost (b : Nat) (S : St) (Q : Lg → Dk → Prop) (h first pos n : Nat) (w : World) (e : Ending) (w' : World) : Prop :=
  e = .returned (.tuple #[.int .i64 first, .int .i64 0]) ∧ ∃ L' D' X', Q L' D' ∧ X'.ents = entsN S.X.ents h first pos n ∧ StoreAt w' b (S.app L' D' X') ∧ Upd (S.has b) w w' ∧ ∀ k, (S.app L' D' X').has b k → S.has b k ∨ w.heap.size ≤ k
def LogAppPost (S : St) (Q : Lg → Dk → Prop) (pos : Nat) (w : World) (e : Ending) (w' : World) : Prop :=
  e = .returned (.tuple #[.int .i64 pos, .int .i64 0]) ∧ ∃ L' D', Q L' D' ∧ LogOn w' S.bl L' D' ∧ Upd (Both S.bl S.L S.D) w w' ∧ ∀ k, Both S.bl L' D' k → Both S.bl S.L S.D k ∨ w.heap.size ≤ k
def LastPost (b : Nat) (S : St) (last : Int) (w : World) (e : Ending) (w' : World) : Prop :=
  e = .returned (.tuple #[.int .i64 last, .int .i64 0]) ∧ ∃ r, StoreAt w' b (S.rd r) ∧ Upd (Both S.bl S.L S.D) w w'
set_option maxRecDepth 100000 in
set_option maxHeartbeats 4000000 in
theorem store_Append (b : Nat) (S : St) (Q : Lg → Dk → Prop) (hh first pos : Nat) (expected : Int) (st : List UInt8) (l : List Ev) (v : Value) (w : World) (h : StoreAt w b S) (hv : EvsAt w v l) (hvo : ∀ k, v.ownBlock = some k → ¬ S.has b k)
    (h1 : st ≠ []) (h2 : l ≠ []) (h3 : st.length ≤ 32) (h4 : l.length ≤ 8) (h5 : first + l.length ≤ 1073741824) (hok : ∀ e ∈ l, EvOk e)
    (hexp : expected = -2 ∨ expected = (first : Int) - 1)
    (hlast : ∀ w, StoreAt w b S → Calls Tryz.prog 76 #[.pointer (some ⟨b, 0, none⟩), .string ⟨st.toArray⟩] w (LastPost b S ((first : Int) - 1) w))
    (happ : ∀ r w, LogOn w S.bl S.L (S.D.rd r) → Calls Tryz.prog 82 #[.pointer (some ⟨S.bl, 0, none⟩), .string ⟨(putB st first l).toArray⟩] w (LogAppPost S Q pos w))
    (hhash : ∀ w, Calls Tryz.prog 83 #[.int .u64 S.seed, .string ⟨st.toArray⟩] w fun e w' => e = .returned (.int .u64 hh) ∧ w = w')
    (hh64 : hh < 18446744073709551616) (hpos : pos ≤ 100000000) (hmany : S.X.ents.length + 8 ≤ 1000000)
    (hfr : ∀ k < l.length, SortedE (entsN S.X.ents hh first pos k) ∧ (⟨hh, first + k, pos⟩ : En) ∉ entsN S.X.ents hh first pos k) :
    Calls Tryz.prog 31 #[.pointer (some ⟨b, 0, none⟩), .string ⟨st.toArray⟩, .int .i64 expected, v] w (StAppPost b S Q hh first pos l.length w) := by
  have hfb : firstBad l = 0 := firstBad_zero.2 (fun e he => (hok e he).1)
  have hsz : ∀ e ∈ l, e.ty.length ≤ 1048576 ∧ e.da.length ≤ 1048576 := fun e he => by have := (hok e he).len; omega
  obtain ⟨g, off, cap, hve⟩ : ∃ g off cap, v = .slice (some ⟨g, off, none⟩) l.length cap := by obtain ⟨g, off, cap, e, -⟩ := hv; exact ⟨g, off, cap, e⟩
  subst hve
  have HCK : Hid (∀ w', EvsAt w' (.slice (some ⟨g, off, none⟩) l.length cap) l → Calls Tryz.prog 79 #[.agg #[.string ⟨st.toArray⟩, .int .i64 0, .slice (some ⟨g, off, none⟩) l.length cap]] w' fun e w'' => e = .returned (.int .i64 0) ∧ Below w'.heap.size w' w'') :=
    Lib.hid (fun w' hv' => by
      have := batches_Check_in st 0 l _ w' hv' h1 h2 h3 h4 (by omega) hsz
      rw [hfb] at this
      exact this)
  have HPUT := Lib.hid (fun w' hv' => batches_Put st first l (.slice (some ⟨g, off, none⟩) l.length cap) w' hv' h1 h2 h3 h4 h5 hsz hfb)
  have HLAST := Lib.hid hlast
  have HAPP := Lib.hid happ
  have HHASH := Lib.hid hhash
  have HFR := Lib.hid hfr
  have HVO := Lib.hid hvo
  have HH := Lib.hid h
  have HV := Lib.hid hv
  have HLT := Lib.hid (fun k (hk : S.has b k) => h.has_lt hk)
  have hB := (Below.refl w.heap.size w).alloc (Nat.le_refl _) (.cells #[.string ⟨st.toArray⟩, .int .i64 0, .slice (some ⟨g, off, none⟩) l.length cap] 132)
  have hk := blk_new (w := w) rfl (.cells #[.string ⟨st.toArray⟩, .int .i64 0, .slice (some ⟨g, off, none⟩) l.length cap] 132)
  obtain ⟨W, hW⟩ : ∃ W, w.alloc (.cells #[.string ⟨st.toArray⟩, .int .i64 0, .slice (some ⟨g, off, none⟩) l.length cap] 132) = W := ⟨_, rfl⟩
  rw [hW] at hB hk
  have hszW : W.heap.size = w.heap.size + 1 := by rw [← hW]; simp
  have HW := Lib.hid hW
  have HB := Lib.hid hB
  have HK := Lib.hid hk
  have HSZ := Lib.hid hszW
  have HS0 := Lib.hid (h.below hB)
  have HV0 := Lib.hid (hv.below hB)
  have p_c0 : World.cell? W ⟨w.heap.size, 0, none⟩ = some (.string ⟨st.toArray⟩) := by rw [cell_of_block hk]; rfl
  have p_f0 : World.frozen? W ⟨w.heap.size, 0, none⟩ = false := frozen_of_block hk
  have p_c1 : World.cell? W ⟨w.heap.size, 1, none⟩ = some (.int .i64 0) := by rw [cell_of_block hk]; rfl
  have p_f1 : World.frozen? W ⟨w.heap.size, 1, none⟩ = false := frozen_of_block hk
  have p_c2 : World.cell? W ⟨w.heap.size, 2, none⟩ = some (.slice (some ⟨g, off, none⟩) l.length cap) := by rw [cell_of_block hk]; rfl
  have p_f2 : World.frozen? W ⟨w.heap.size, 2, none⟩ = false := frozen_of_block hk
  clear h hv hvo hlast happ hhash hfr hfb hsz hB hk hW h1 h2 hszW
  go_enter Tryz.func31, Tryz.ntmps31
  go_wp2_with fail
  rw [HW.out]
  refine (HCK.out W HV0.out).mono ?_
  rintro e w1 ⟨rfl, hb1⟩
  have HS1 := Lib.hid (HS0.out.below hb1)
  have HV1 := Lib.hid (HV0.out.below hb1)
  have HK1 := Lib.hid (blk_kept hb1 HK.out)
  have HB1 := Lib.hid (HB.out.trans (hb1.mono HB.out.size))
  have HN := Lib.hid (store_none b S w1 HS1.out)
  have HSZ1 : Hid (w.heap.size < w1.heap.size) := Lib.hid (by have := hb1.size; have := HSZ.out; omega)
  clear hb1 p_c0 p_c1 p_c2 p_f0 p_f1 p_f2 HCK HS0 HV0 HK
  go_wp2_with fail
  refine HN.out.mono ?_
  rintro e w2 ⟨rfl, rfl⟩
  have hx1 : ¬ expected < -2 := by omega
  go_wp2_with fail
  refine (HLAST.out w1 HS1.out).mono ?_
  rintro e w2 ⟨rfl, r, hs2, hu2⟩
  have HS2 := Lib.hid hs2
  have HV2 := Lib.hid (HV1.out.kept hu2 (fun k hk hB => HVO.out k hk (.inr (.inl hB))))
  have HK2 := Lib.hid (hu2.kept HK1.out (fun hB => by have := HLT.out _ (.inr (.inl hB)); omega))
  have HU2 := Lib.hid (((Upd.of_below HB1.out).trans (hu2.mono (fun k _ hk => .inr (.inl hk)))) : Upd (S.has b) w w2)
  have HSZ2 : Hid (w.heap.size < w2.heap.size) := Lib.hid (Nat.lt_of_lt_of_le HSZ1.out hu2.size)
  clear hs2 hu2 HB1 HS1 HV1 HK1 HN HLAST HSZ1
  have hk2 := HK2.out
  have p_c0 : World.cell? w2 ⟨w.heap.size, 0, none⟩ = some (.string ⟨st.toArray⟩) := by rw [cell_of_block hk2]; rfl
  have p_f0 : World.frozen? w2 ⟨w.heap.size, 0, none⟩ = false := frozen_of_block hk2
  have p_c1 : World.cell? w2 ⟨w.heap.size, 1, none⟩ = some (.int .i64 0) := by rw [cell_of_block hk2]; rfl
  have p_f1 : World.frozen? w2 ⟨w.heap.size, 1, none⟩ = false := frozen_of_block hk2
  have p_c2 : World.cell? w2 ⟨w.heap.size, 2, none⟩ = some (.slice (some ⟨g, off, none⟩) l.length cap) := by rw [cell_of_block hk2]; rfl
  have p_f2 : World.frozen? w2 ⟨w.heap.size, 2, none⟩ = false := frozen_of_block hk2
  clear hk2
  have hcond : expected = -2 ∨ (expected = (first : Int) - 1 ∧ expected ≠ -2) := by omega
  have HCOND := Lib.hid hcond
  clear hexp hcond hx1
  have HGO : ∀ w3, w3 = w2 → True := fun _ _ => trivial
  clear HGO
  rcases HCOND.out with rfl | ⟨rfl, hne⟩
  all_goals
    try (have hne2 : ((first : Int) - 1 != -2) = true := by rw [bne_iff_ne]; exact hne)
    try clear hne
    go_wp2_with fail
    obtain ⟨w3, hw3⟩ : ∃ w3, w2.setCell ⟨w.heap.size, 1, none⟩ (.int .i64 first) = w3 := ⟨_, rfl⟩
    have hu3 : Upd (· = w.heap.size) w2 w3 := by rw [← hw3]; exact Upd.setCell (S := (· = w.heap.size)) (Upd.refl _ w2) (.inl rfl) _
    have HV3 := Lib.hid (HV2.out.kept hu3 (fun k hk e => by
        have e1 : g = k := by simpa [Value.ownBlock] using hk
        have e2 : k = w.heap.size := e
        obtain ⟨g', off', cap', e3, e4, -⟩ := HV.out
        have e5 : g = g' := by simp only [Value.slice.injEq, Option.some.injEq, Addr.mk.injEq] at e3; exact e3.1.1
        omega))
    have HS3 := Lib.hid (HS2.out.kept hu3 (fun k hk e => by have := HLT.out k hk; omega))
    have HK3 : Hid (w3.heap[w.heap.size]? = some (.cells #[.string ⟨st.toArray⟩, .int .i64 first, .slice (some ⟨g, off, none⟩) l.length cap] 132)) := Lib.hid (by rw [← hw3]; exact block_setCell HK2.out _)
    have HU3 : Hid (Upd (S.has b) w w3) := Lib.hid (by rw [← hw3]; exact HU2.out.setCell (.inr (Nat.le_refl _)) _)
    have HSZ3 : Hid (w.heap.size < w3.heap.size) := Lib.hid (Nat.lt_of_lt_of_le HSZ2.out hu3.size)
    rw [hw3]
    have hk3 := HK3.out
    clear p_c0 p_c1 p_c2 p_f0 p_f1 p_f2 hw3 hu3
    have p_c0 : World.cell? w3 ⟨w.heap.size, 0, none⟩ = some (.string ⟨st.toArray⟩) := by rw [cell_of_block hk3]; rfl
    have p_f0 : World.frozen? w3 ⟨w.heap.size, 0, none⟩ = false := frozen_of_block hk3
    have p_c1 : World.cell? w3 ⟨w.heap.size, 1, none⟩ = some (.int .i64 first) := by rw [cell_of_block hk3]; rfl
    have p_f1 : World.frozen? w3 ⟨w.heap.size, 1, none⟩ = false := frozen_of_block hk3
    have p_c2 : World.cell? w3 ⟨w.heap.size, 2, none⟩ = some (.slice (some ⟨g, off, none⟩) l.length cap) := by rw [cell_of_block hk3]; rfl
    have p_f2 : World.frozen? w3 ⟨w.heap.size, 2, none⟩ = false := frozen_of_block hk3
    clear hk3
    go_wp2_with fail
    refine (HPUT.out w3 HV3.out).mono ?_
    rintro e w4 ⟨rfl, hb4⟩
    have HS4 := Lib.hid (HS3.out.below hb4)
    have HK4 := Lib.hid (blk_kept hb4 HK3.out)
    have HU4 := Lib.hid (HU3.out.trans (Upd.of_below hb4))
    have HSZ4 : Hid (w.heap.size < w4.heap.size) := Lib.hid (Nat.lt_of_lt_of_le HSZ3.out hb4.size)
    have q0 : w4.cell? ⟨b, 0, none⟩ = some (.pointer (some ⟨S.bl, 0, none⟩)) := by rw [cell_of_block HS4.out.blk]; rfl
    obtain ⟨pay, hpay⟩ : ∃ pay, putB st first l = pay := ⟨_, rfl⟩
    rw [hpay] at HAPP ⊢
    clear hb4 hpay p_c0 p_c1 p_c2 p_f0 p_f1 p_f2
    go_wp2_with fail
    refine (HAPP.out r w4 HS4.out.log).mono ?_
    rintro e w5 ⟨rfl, L', D', hQ, hl5, hu5, hg5⟩
    have HQ := Lib.hid hQ
    have HS5 : Hid (StoreAt w5 b (S.app L' D' S.X)) := Lib.hid (StoreAt.turn (S := S.rd r) HS4.out hu5 hl5 hg5)
    have HK5 := Lib.hid (hu5.kept HK4.out (fun hB => by have := HLT.out _ (.inr (.inl hB)); omega))
    have HU5 : Hid (Upd (S.has b) w w5) := Lib.hid (HU4.out.trans (hu5.mono (fun k _ hk => .inr (.inl hk))))
    have HSZ5 : Hid (w.heap.size < w5.heap.size) := Lib.hid (Nat.lt_of_lt_of_le HSZ4.out hu5.size)
    have HG5 : Hid (∀ k, Both S.bl L' D' k → Both S.bl S.L S.D k ∨ w.heap.size ≤ k) := Lib.hid (fun k hk => (hg5 k hk).imp id (fun e => by have := HSZ4.out; omega))
    have q2 : w5.cell? ⟨b, 2, none⟩ = some (.int .u64 S.seed) := by rw [cell_of_block HS5.out.blk]; rfl
    clear hQ hl5 hu5 hg5 q0
    go_wp2_with fail
    refine (HHASH.out w5).mono ?_
    rintro e w6 ⟨rfl, rfl⟩
    clear q2
    go_wp2_with fail
    go_loopw [83] (fun iv wr => ∃ (k : Nat) (X' : Ix), iv = .int .i64 k ∧ k ≤ l.length ∧ X'.ents = entsN S.X.ents hh first pos k ∧ StoreAt wr b (S.app L' D' X') ∧ Upd (S.has b) w wr ∧ (∀ k, X'.has S.bx k → S.X.has S.bx k ∨ w.heap.size ≤ k) ∧
        wr.heap[w.heap.size]? = some (.cells #[.string ⟨st.toArray⟩, .int .i64 first, .slice (some ⟨g, off, none⟩) l.length cap] 132)) (fun iv _ => l.length - (intOf iv).toNat)
    case atStart => exact ⟨0, S.X, rfl, by omega, rfl, HS5.out, HU5.out, fun k hk => .inl hk, HK5.out⟩
    case round =>
      obtain ⟨k, X', rfl, hk, hX, hs, hu, hgx, hkb⟩ := hrel
      have HSR := Lib.hid hs
      have HUR := Lib.hid hu
      have HGX := Lib.hid hgx
      have HKR := Lib.hid hkb
      have HXE := Lib.hid hX
      have c1 : wr.cell? ⟨b, 1, none⟩ = some (.pointer (some ⟨S.bx, 0, none⟩)) := by rw [cell_of_block hs.blk]; rfl
      have d1 : wr.cell? ⟨w.heap.size, 1, none⟩ = some (.int .i64 first) := by rw [cell_of_block hkb]; rfl
      clear hs hu hgx hkb hX
      by_cases hlt : k < l.length
      · have HADD : Hid (∀ w', IxAt w' S.bx X' → Calls Tryz.prog 84 #[.pointer (some ⟨S.bx, 0, none⟩), .agg #[.int .u64 hh, .int .i64 ((first : Int) + k), .int .i64 pos]] w' (IxAddPost S.bx X' ⟨hh, first + k, pos⟩ w')) := Lib.hid (fun w' hx => by
          have hf := HFR.out k hlt
          have := index_Add S.bx X' ⟨hh, first + k, pos⟩ w' hx (by rw [HXE.out]; exact hf.1) (by rw [HXE.out]; exact hf.2) ⟨hh64, by simp only; omega, hpos⟩ (by rw [HXE.out, entsN_length]; omega)
          unfold En.val at this
          simpa using this)
        have e1 : IntKind.i64.wrap ((first : Int) + k) = (first : Int) + k := IntWalk.i64_in _ (by omega)
        go_wp2_with fail
        go_region_held3 (fun w' => w'.cell? ⟨b, 1, none⟩ = some (.pointer (some ⟨S.bx, 0, none⟩)) ∧ w'.cell? ⟨w.heap.size, 1, none⟩ = some (.int .i64 first))
          (first | exact ⟨c1, d1⟩ | exact hkeep)
          ((go_at_call 84; with_reducible refine (HADD.out _ (HSR.out.ix.below (Below.refl _ _).drew)).mono ?_; intro r2 w7 hp
            obtain ⟨rfl, mv, hx7, hnw7, hu7⟩ := hp
            have hs7 : StoreAt w7 b (S.app L' D' (X'.put mv (insE X'.ents ⟨hh, first + k, pos⟩))) := (HSR.out.below (Below.refl _ _).drew).turnX hu7 hx7 rfl (fun j hj => by
              rcases hj with e | e | e
              · exact .inl (.inl e)
              · exact .inl (.inr (.inl e))
              · exact .inr (hnw7 _ e))
            have hk7 := hu7.kept HKR.out (fun e => by have h1 := HSR.out.ix.mem; have e' : w.heap.size = X'.bm := e; have h2 := HKR.out; rw [e'] at h2; have h3 : wr.heap[X'.bm]? = some (.cells #[.bool true, X'.mv] 232) := h1; rw [h2] at h3; cases h3)
            have hkeep : w7.cell? ⟨b, 1, none⟩ = some (.pointer (some ⟨S.bx, 0, none⟩)) ∧ w7.cell? ⟨w.heap.size, 1, none⟩ = some (.int .i64 first) := ⟨by rw [cell_of_block hs7.blk]; rfl, by rw [cell_of_block hk7]; rfl⟩
            have HS7 := Lib.hid hs7
            have HK7 := Lib.hid hk7
            clear hs7 hk7 hx7))
        have hu7' : Upd (S.has b) w w7 := (HUR.out.drewN 1).then hu7 (fun j hj => by
          have e' : j = X'.bm := hj
          rcases HGX.out j (.inr (.inl e')) with e | e
          · exact .inl (.inr (.inr e))
          · exact .inr e)
        have HU7 := Lib.hid hu7'
        have HX7 : Hid ((X'.put mv (insE X'.ents ⟨hh, first + k, pos⟩)).ents = entsN S.X.ents hh first pos (k + 1)) := Lib.hid (by show insE X'.ents _ = _; rw [HXE.out]; rfl)
        have HG7 : Hid (∀ j, (X'.put mv (insE X'.ents ⟨hh, first + k, pos⟩)).has S.bx j → S.X.has S.bx j ∨ w.heap.size ≤ j) := Lib.hid (fun j hj => by
          rcases hj with e | e | e
          · exact .inl (.inl e)
          · exact HGX.out j (.inr (.inl e))
          · have h1 := hnw7 _ e
            have h2 : wr.drew.heap.size = wr.heap.size := rfl
            have h3 := HUR.out.size
            exact .inr (by omega))
        rename_i hHeld
        clear hHeld hu7 hu7' hnw7 hkeep c1 d1 e1
        go_wp2_with fail
        go_roundw
        case rel => exact ⟨k + 1, _, by go_num, by omega, HX7.out, HS7.out, HU7.out, HG7.out, HK7.out⟩
        case measure => simp [intOf]; omega
      · obtain rfl : k = l.length := by omega
        clear hlt hk
        go_wp2_with fail
        go_ret2
        refine ⟨rfl, L', D', X', HQ.out, HXE.out, HSR.out, HUR.out, fun j hj => ?_⟩
        rcases hj with e | e | e
        · exact .inl (.inl e)
        · exact (HG5.out j e).imp (fun e => .inr (.inl e)) id
        · exact (HGX.out j e).imp (fun e => .inr (.inr e)) id
end Go.Proofs.YtamlhndibcafgaaGreatDoor
