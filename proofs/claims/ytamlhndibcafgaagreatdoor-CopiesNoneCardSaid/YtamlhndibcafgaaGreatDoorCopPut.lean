/- Contracts of strings.Builder: copyCheck, WriteString; String, laid from the shelf. Contract of copies.Put. -/
import Derived.Shelf.Strings.Builder1
import Derived.Test.YtamlhndibcafgaaGreatDoorNums
import Derived.Test.YtamlhndibcafgaaGreatDoorDisk2
import Derived.Test.YtamlhndibcafgaaGreatDoorBatch1
import Derived.Test.YtamlhndibcafgaaGreatDoorCopGet
namespace Go.Proofs
open Go.Shelf
def Tryz.lays169_ren : Go.Shelf.Ren := ⟨fun | 169 => 39 | n => n, fun | 70 => 86 | 9 => 9 | 0 => 0 | 72 => 88 | 37 => 31 | 127 => 147 | 3 => 3 | 5 => 5 | n => n, fun | n => n⟩
theorem Tryz.lays169 : Go.Proofs.Lays.n169 Tryz.prog Tryz.lays169_ren := {
  mixed := by kernel_rfl
  f169 := Tryz.func39.trans (congrArg some (by kernel_rfl))
  t0 := Tryz.underlying0
  a0 := Tryz.isAgg0
  z0 := Tryz.sizeOf0
  v0 := Tryz.zeroValue0
  t3 := Tryz.underlying3
  a3 := Tryz.isAgg3
  z3 := Tryz.sizeOf3
  v3 := Tryz.zeroValue3
  t9 := Tryz.underlying9
  a9 := Tryz.isAgg9
  z9 := Tryz.sizeOf9
  v9 := Tryz.zeroValue9
  t37 := Tryz.underlying31
  a37 := Tryz.isAgg31
  z37 := Tryz.sizeOf31
  v37 := Tryz.zeroValue31
  t70 := Tryz.underlying86
  a70 := Tryz.isAgg86
  z70 := Tryz.sizeOf86
  v70 := Tryz.zeroValue86
  t72 := Tryz.underlying88
  a72 := Tryz.isAgg88
  z72 := Tryz.sizeOf88
  v72 := Tryz.zeroValue88
  t127 := Tryz.underlying147
  a127 := Tryz.isAgg147
  z127 := Tryz.sizeOf147
  v127 := Tryz.zeroValue147 }
theorem Tryz.Builder_Extra_169 : Builder.Extra Tryz.prog Tryz.lays169_ren := {
  sizeBuilder := by kernel_rfl
  liesBuilder := by kernel_rfl
  t5 := Tryz.underlying5
  a5 := Tryz.isAgg5
  z5 := Tryz.sizeOf5
  v5 := Tryz.zeroValue5
  infoByte := by kernel_rfl
  cellsByte := by kernel_rfl
  sizeByte := by kernel_rfl
  neB5 := by decide }
end Go.Proofs
namespace Go.Proofs.YtamlhndibcafgaaGreatDoor
open Go.RowKit Go.MapKept
theorem Tryz.sizeBuilder : (Tryz.prog.info? 88).map (·.size) = some 2 := by kernel_rfl
theorem Tryz.liesBuilder : liesAt Tryz.prog Tryz.prog.depth 88 (2 / Tryz.prog.cellsOf 88) 0 88 1 = true := by kernel_rfl
set_option maxRecDepth 100000 in
set_option maxHeartbeats 1000000 in
theorem Builder_copyCheck_used (b : Nat) (w : World) (h0 : w.cell? ⟨b, 0, none⟩ = some (.pointer (some ⟨b, 0, none⟩))) :
    Calls Tryz.prog 85 #[.pointer (some ⟨b, 0, none⟩)] w fun e w' => e = .returned (.tuple #[]) ∧ w' = w := by
  obtain ⟨j, hj, _⟩ := Option.map_eq_some_iff.1 Tryz.sizeBuilder
  go_enter Tryz.func85, Tryz.ntmps85
  go_wp2
  rw [Lib.run_neq_ptr_same w _ Tryz.underlying86 hj]
  go_wp2
  go_end0
  exact ⟨rfl, rfl⟩
set_option maxRecDepth 100000 in
set_option maxHeartbeats 1000000 in
theorem Builder_copyCheck_fresh (b : Nat) (w : World) (h0 : w.cell? ⟨b, 0, none⟩ = some (.pointer none)) (hsh : w.shape? b = some (88, 2)) (hfz : w.frozen? ⟨b, 0, none⟩ = false) :
    Calls Tryz.prog 85 #[.pointer (some ⟨b, 0, none⟩)] w fun e w' => e = .returned (.tuple #[]) ∧ w' = w.setCell ⟨b, 0, none⟩ (.pointer (some ⟨b, 0, none⟩)) := by
  obtain ⟨j, hj, hjs⟩ := Option.map_eq_some_iff.1 Tryz.sizeBuilder
  go_enter Tryz.func85, Tryz.ntmps85
  go_wp2
  rw [Lib.run_to_unsafe w ⟨b, 0, none⟩ Tryz.underlying86 Tryz.underlying190 hj (by rw [hjs]; decide) hsh (Nat.zero_lt_succ 1)]
  simp only [Result.andThen]
  rw [Oper.upon_value]
  go_wp2
  rw [run_callFunc_extern Tryz.func124 (by kernel_rfl) (by kernel_rfl) (by kernel_rfl) (e := Extern.AbiNoEscape.same) (by kernel_rfl)]
  rw [Lib.run_noEscape]
  simp only [Result.andThen]
  rw [Oper.upon_value]
  go_wp2
  rw [Lib.run_from_unsafe w ⟨b, 0, none⟩ Tryz.underlying190 Tryz.underlying86 hj hsh Tryz.liesBuilder]
  simp only [Result.andThen]
  rw [Oper.upon_value]
  go_wp2
  go_end0
  exact ⟨rfl, rfl⟩
/-- What a write touches: the builder's block, its bytes' row. -/
def BuildTouch (b : Nat) (w : World) (k : Nat) : Prop := k = b ∨ ∃ p v, w.heap[b]? = some (.cells #[p, v] 88) ∧ v.ownBlock = some k
theorem Builder_copyCheck (b : Nat) (p v : Value) (w : World) (hb : w.heap[b]? = some (.cells #[p, v] 88)) (hp : p = .pointer none ∨ p = .pointer (some ⟨b, 0, none⟩)) :
    Calls Tryz.prog 85 #[.pointer (some ⟨b, 0, none⟩)] w fun e w' => e = .returned (.tuple #[]) ∧ w'.heap[b]? = some (.cells #[.pointer (some ⟨b, 0, none⟩), v] 88) ∧ Upd (· = b) w w' := by
  have h0 : w.cell? ⟨b, 0, none⟩ = some p := by rw [cell_of_block hb]; rfl
  rcases hp with rfl | rfl
  · refine (Builder_copyCheck_fresh b w h0 (by simp [World.shape?, hb]) (frozen_of_block hb)).mono ?_
    rintro e w' ⟨rfl, rfl⟩
    exact ⟨rfl, block_setCell hb _, Upd.setCell (S := (· = b)) (Upd.refl _ _) (.inl rfl) _⟩
  · refine (Builder_copyCheck_used b w h0).mono ?_
    rintro e w' ⟨rfl, rfl⟩
    exact ⟨rfl, hb, Upd.refl _ _⟩
set_option maxRecDepth 100000 in
set_option maxHeartbeats 1000000 in
theorem Builder_WriteString (B b : Nat) (l s : List UInt8) (w : World) (h : Lib.IsBuilder 88 5 B b (bytesRow l) w) (hlen : l.length + s.length ≤ 140737488355328) (hBw : B ≤ w.heap.size) :
    Calls Tryz.prog 32 #[.pointer (some ⟨b, 0, none⟩), .string ⟨s.toArray⟩] w fun e w' => e = .returned (.tuple #[.int .i64 s.length, .nilIface]) ∧ Lib.IsBuilder 88 5 B b (bytesRow (l ++ s)) w' ∧ Upd (BuildTouch b w) w w' := by
  obtain ⟨i0, hi, hz0, hz1, hz2⟩ := info_parts Tryz.info5
  have I0 := Lib.hid hi; have I1 := Lib.hid hz0; have I2 := Lib.hid hz1; have I3 := Lib.hid hz2
  clear hi hz0 hz1 hz2
  obtain ⟨p, v, hB, hb, hown, hne, hp⟩ : ∃ p v, B ≤ b ∧ w.heap[b]? = some (.cells #[p, v] 88) ∧ w.ownsRow B 5 1 v (bytesRow l).length (bytesRow l) ∧ v.ownBlock ≠ some b ∧ (p = .pointer none ∨ p = .pointer (some ⟨b, 0, none⟩)) := by
    rcases h with ⟨h1, v, h2, h3, h4⟩ | ⟨h1, v, h2, h3, h4⟩
    · exact ⟨_, v, h1, h2, h3, h4, .inl rfl⟩
    · exact ⟨_, v, h1, h2, h3, h4, .inr rfl⟩
  have HC := Lib.hid (Builder_copyCheck b p v w hb hp)
  have HTO := Lib.hid (fun k (hk : v.ownBlock = some k) => (.inr ⟨p, v, hb, hk⟩ : BuildTouch b w k))
  have HOWN0 := Lib.hid hown
  have HNE := Lib.hid hne
  have hlt := blk_lt hb
  clear h hb hown hne hp
  go_enter Tryz.func32, Tryz.ntmps32
  go_wp2_with fail
  refine HC.out.mono ?_
  rintro e w1 ⟨rfl, hbk, hu1⟩
  have HBK := Lib.hid hbk
  have HU1 := Lib.hid hu1
  have HOWN : Hid (w1.ownsRow B 5 1 v (bytesRow l).length (bytesRow l)) := Lib.hid (by
    refine ⟨HOWN0.out.1, ?_⟩
    rcases HOWN0.out.2 with h5 | ⟨g, cap, cur, e1, e2, e3, e4⟩
    · exact .inl h5
    · exact .inr ⟨g, cap, cur, e1, e2, hu1.kept e3 (fun hs => by have e5 : g = b := hs; exact HNE.out (by rw [e1, e5]; rfl)), e4⟩)
  have p_c0 : World.cell? w1 ⟨b, 0, none⟩ = some (.pointer (some ⟨b, 0, none⟩)) := by rw [cell_of_block hbk]; rfl
  have p_f0 : World.frozen? w1 ⟨b, 0, none⟩ = false := frozen_of_block hbk
  have p_c1 : World.cell? w1 ⟨b, 1, none⟩ = some (v) := by rw [cell_of_block hbk]; rfl
  have p_f1 : World.frozen? w1 ⟨b, 1, none⟩ = false := frozen_of_block hbk
  have hsz := hu1.size
  clear hbk hu1 p_f0 p_f1
  go_wp2_with (at_builtin; refine Lib.wpList_append_own_string _ rfl _ _ 31 9 rfl B 5 i0 Tryz.underlying31 Tryz.underlying9 I0.out I1.out I2.out I3.out _ _ _ rfl HOWN.out ⟨s.toArray⟩ rfl ?c3 ?c4 ?c5 ?_)
  case c3 => unfold maxLen; simp [bytesRow]; omega
  case c4 => simp [bytesRow]; omega
  case c5 => omega
  intro v' w2 hown' hgrow _
  have hb2 : w2.heap[b]? = some (.cells #[.pointer (some ⟨b, 0, none⟩), v] 88 (0, 0)) := by
    rw [hgrow.block b (by omega) (fun e => HNE.out e.symm)]
    exact HBK.out
  obtain ⟨ao, cap, rfl⟩ := ownsRow_slice hown'
  have q_c0 : World.cell? w2 ⟨b, 0, none⟩ = some (.pointer (some ⟨b, 0, none⟩)) := by rw [cell_of_block hb2]; rfl
  have q_f0 : World.frozen? w2 ⟨b, 0, none⟩ = false := frozen_of_block hb2
  have q_c1 : World.cell? w2 ⟨b, 1, none⟩ = some (v) := by rw [cell_of_block hb2]; rfl
  have q_f1 : World.frozen? w2 ⟨b, 1, none⟩ = false := frozen_of_block hb2
  have HB2 := Lib.hid hb2
  have HOWN' := Lib.hid hown'
  have HGROW := Lib.hid hgrow
  clear hb2 hown' hgrow p_c0 p_c1 q_f0
  go_wp2_with fail
  go_ret2
  refine ⟨by simp, .inr ?_, ?_⟩
  · refine Lib.BuilderAt.put (T := 88) (e := 5) hB HB2.out (bs' := bytesRow (l ++ s)) ?_ (by decide)
    have := HOWN'.out
    rw [strCells_bytes, ← bytesRow_append] at this
    simpa [bytesRow] using this
  · refine Upd.setCell (((HU1.out.mono (fun k _ hk => .inl hk)).trans ?_)) (.inl (.inl rfl)) _
    exact ⟨HGROW.out.os, HGROW.out.tape, HGROW.out.output, HGROW.out.size, fun k hk hn => HGROW.out.block k hk (fun e => hn (HTO.out k e.symm))⟩
theorem build_apart {B b k : Nat} {bs : List Value} {w : World} (h : Lib.IsBuilder 88 5 B b bs w) {cs : Array Value} {T : TypeId} {fz : Nat × Nat} (hk : w.heap[k]? = some (.cells cs T fz)) (hT : T ≠ 5) (hkb : k ≠ b) : ¬ BuildTouch b w k := by
  rintro (e | ⟨p, v, hb, hv⟩)
  · exact hkb e
  have q : ∀ p', Lib.BuilderAt 88 5 B b p' bs w → False := by
    rintro p' ⟨_, v', hb', hown, _⟩
    rw [hb] at hb'
    simp only [Option.some.injEq, Obj.cells.injEq, Array.mk.injEq, List.cons.injEq] at hb'
    obtain ⟨⟨-, rfl, -⟩, -⟩ := hb'
    rcases hown.2 with ⟨rfl, _⟩ | ⟨g, cap, cur, rfl, _, hg, _⟩
    · cases hv
    · have e : g = k := by simpa [Value.ownBlock] using hv
      subst e
      rw [hk] at hg
      simp only [Option.some.injEq, Obj.cells.injEq] at hg
      exact hT hg.2.1
  rcases h with h | h
  · exact q _ h
  · exact q _ h
theorem build_map {B b k : Nat} {bs : List Value} {w : World} (h : Lib.IsBuilder 88 5 B b bs w) (hk : k < B) : ¬ BuildTouch b w k := by
  rintro (e | ⟨p, v, hb, hv⟩)
  · rcases h with h | h <;> (have := h.1; omega)
  have q : ∀ p', Lib.BuilderAt 88 5 B b p' bs w → False := by
    rintro p' ⟨_, v', hb', hown, _⟩
    rw [hb] at hb'
    simp only [Option.some.injEq, Obj.cells.injEq, Array.mk.injEq, List.cons.injEq] at hb'
    obtain ⟨⟨-, rfl, -⟩, -⟩ := hb'
    have := (World.ownsRow.lt hown _ hv).1
    omega
  rcases h with h | h
  · exact q _ h
  · exact q _ h
theorem Builder_String (B b : Nat) (l : List UInt8) (w : World) (h : Lib.IsBuilder 88 5 B b (bytesRow l) w) (hBw : B ≤ w.heap.size) :
    Calls Tryz.prog 39 #[.pointer (some ⟨b, 0, none⟩)] w fun e w' => e = .returned (.string ⟨l.toArray⟩) ∧ Below B w w' :=
  Any.Builder_String_any Tryz.lays169 Tryz.Builder_Extra_169 B b l w h hBw
end Go.Proofs.YtamlhndibcafgaaGreatDoor

namespace Go.Proofs.YtamlhndibcafgaaGreatDoor
open Go.RowKit Go.MapKept
open Go.ChangeMaps (setBlock)

/-- An event, as somebody says where it stands. -/
structure Tz where
  st : List UInt8
  ver : Int
  ev : Ev
def putG : List Tl → List Tz → Option (List UInt8)
  | _, [] => some []
  | L, x :: r => if streamB x.st = true ∧ checkE x.ev = 0 ∧ x.ver = cnt L x.st then (putG (L ++ [⟨x.st, cnt L x.st, x.ev⟩]) r).map fun t => textL x.st ++ bytesE x.ev ++ t else none
/-- A copy's text; what is wrong. -/
def putC (l : List Tz) : List UInt8 × Nat := if 1000 < l.length then ([], 3) else match putG [] l with
  | none => ([], 2)
  | some t => (sealL (markL ++ be 4 l.length ++ t), 0)
def TzsAt (w : World) (v : Value) (l : List Tz) : Prop :=
  ∃ a cap, v = .slice a l.length cap ∧ l.length ≤ 1000000 ∧ ∀ i (h : i < l.length), ∃ b off, a = some ⟨b, off, none⟩ ∧ b < w.heap.size ∧
    w.cell? ⟨b, off + i * 5, none⟩ = some (.string ⟨l[i].st.toArray⟩) ∧ w.cell? ⟨b, off + i * 5 + 1, none⟩ = some (.int .i64 l[i].ver) ∧ w.cell? ⟨b, off + i * 5 + 2, none⟩ = some (.string ⟨l[i].ev.ty.toArray⟩) ∧
    w.cell? ⟨b, off + i * 5 + 3, none⟩ = some (.string ⟨l[i].ev.da.toArray⟩) ∧ w.cell? ⟨b, off + i * 5 + 4, none⟩ = some (.float .f64 l[i].ev.wt)
theorem builder_below {T e : TypeId} {B b : Nat} {bs : List Value} {w w' : World} (h : Lib.IsBuilder T e B b bs w) (hb : Below w.heap.size w w') : Lib.IsBuilder T e B b bs w' := by
  rcases h with ⟨h1, v, h2, h3, h4⟩ | ⟨h1, v, h2, h3, h4⟩
  · exact .inl ⟨h1, v, blk_kept hb h2, ownsRow_below h3 hb, h4⟩
  · exact .inr ⟨h1, v, blk_kept hb h2, ownsRow_below h3 hb, h4⟩
theorem builder_upd {S : Nat → Prop} {T e : TypeId} {B b : Nat} {bs : List Value} {w w' : World} (h : Lib.IsBuilder T e B b bs w) (hu : Upd S w w') (hS : ∀ k, S k → k < B) : Lib.IsBuilder T e B b bs w' := by
  have q : ∀ p, Lib.BuilderAt T e B b p bs w → Lib.BuilderAt T e B b p bs w' := by
    rintro p ⟨h1, v, h2, h3, h4⟩
    refine ⟨h1, v, hu.kept h2 (fun hs => by have := hS _ hs; omega), ?_, h4⟩
    refine ⟨h3.1, ?_⟩
    rcases h3.2 with h5 | ⟨g, cap, cur, e1, e2, e3, e4⟩
    · exact .inl h5
    · exact .inr ⟨g, cap, cur, e1, e2, hu.kept e3 (fun hs => by have := hS _ hs; omega), e4⟩
  exact h.imp (q _) (q _)
theorem putG_len : ∀ (l : List Tz) (L : List Tl) (t : List UInt8), putG L l = some t → t.length ≤ l.length * 262 := by
  intro l
  induction l with
  | nil => intro L t h; cases h; simp
  | cons x l ih =>
    intro L t h
    rw [putG] at h
    split at h
    · rename_i hc
      obtain ⟨t', ht', rfl⟩ := Option.map_eq_some_iff.1 h
      have h1 := ih _ _ ht'
      have h2 := textL_le x.st
      have h3 : x.st.length ≤ 32 := by have := hc.1; unfold streamB at this; exact (decide_eq_true_iff.1 this).2
      have h4 : (bytesE x.ev).length ≤ 228 := by
        unfold bytesE
        have hz := hc.2.1
        rw [if_pos hz]
        have h5 := checkE_zero hz
        have h6 := textL_le x.ev.ty
        have h7 := textL_le x.ev.da
        simp only [List.length_append, be_length]; omega
      simp only [List.length_append, List.length_cons]; omega
    · cases h
theorem builder_lt {T e : TypeId} {B b : Nat} {bs : List Value} {w : World} (h : Lib.IsBuilder T e B b bs w) : b < w.heap.size := by
  rcases h with ⟨_, v, h2, _⟩ | ⟨_, v, h2, _⟩ <;> exact blk_lt h2
theorem build_below {B b : Nat} {bs : List Value} {w w' : World} (h : Lib.IsBuilder 88 5 B b bs w) (hu : Upd (BuildTouch b w) w w') (hB : B ≤ w.heap.size) : Below B w w' :=
  hu.below hB (fun k hk => by
    rcases Nat.lt_or_ge k B with h1 | h1
    · exact absurd hk (build_map h h1)
    · exact h1)
def PutRel (w : World) (l : List Tz) (iv : Value) (wr : World) : Prop :=
  ∃ (k : Nat) (L : List Tl) (t : List UInt8) (m : List (Ent (List UInt8))) (c : Nat), k ≤ l.length ∧ iv = .int .i64 k ∧ L.length = k ∧ t.length ≤ 13 + k * 262 ∧ wr.heap[w.heap.size]? = some (.map (strKeys.ents m) c) ∧
    (∀ st, (aget m st).getD (.int .i64 0) = .int .i64 (cnt L st)) ∧ Lib.IsBuilder 88 5 (w.heap.size + 1) (w.heap.size + 1) (bytesRow t) wr ∧ Below w.heap.size w wr ∧
    (putG [] l).map (fun q => markL ++ be 4 l.length ++ q) = (putG L (l.drop k)).map (fun q => t ++ q)
def PutPost (w : World) (l : List Tz) (e : Ending) (w' : World) : Prop :=
  e = .returned (.tuple #[.string ⟨(putC l).1.toArray⟩, .int .i64 (putC l).2]) ∧ Below w.heap.size w w'
set_option maxRecDepth 100000 in
set_option maxHeartbeats 4000000 in
theorem copies_Put (l : List Tz) (v : Value) (w : World) (hv : TzsAt w v l) (hs : ∀ x ∈ l, x.st.length ≤ 1048576 ∧ x.ev.ty.length ≤ 1048576 ∧ x.ev.da.length ≤ 1048576) :
    Calls Tryz.prog 9 #[v] w (PutPost w l) := by
  obtain ⟨a, cap, rfl, hmany, hcells⟩ := hv
  have HCELLS := Lib.hid hcells
  have HS := Lib.hid hs
  clear hcells hs
  by_cases hlong : 1000 < l.length
  · have HP := Lib.hid (show putC l = ([], 3) by unfold putC; rw [if_pos hlong])
    go_enter Tryz.func9, Tryz.ntmps9
    go_wp2_with fail
    go_ret2
    exact ⟨by rw [HP.out]; rfl, Below.refl _ _⟩
  · have hmm := @run_makeMap Tryz.prog
    have e1 : IntKind.u64.wrap (l.length : Int) = l.length := IntWalk.u64_in _ (by omega)
    go_enter Tryz.func9, Tryz.ntmps9
    go_wp2_with fail
    refine (nums_Put l.length 4 _ (by omega) (by omega)).mono ?_
    rintro e w1 ⟨rfl, hb1⟩
    clear e1
    have hmapB : w1.heap[w.heap.size]? = some (.map (strKeys.ents []) 0) := blk_kept hb1 (blk_alloc (heap_alloc_new w _))
    have hbl : Lib.IsBuilder 88 5 (w.heap.size + 1) (w.heap.size + 1) (bytesRow []) w1 := .inl ⟨Nat.le_refl _, .slice none 0 0, blk_kept hb1 (blk_new (by simp) _), World.ownsRow_nil _ _ _ _, by simp [Value.ownBlock]⟩
    have hbw1 : Below w.heap.size w w1 := (((Below.refl _ _).alloc (Nat.le_refl _) _).alloc (by simp) _).trans (hb1.mono (by simp; omega))
    have hsz1 : w.heap.size + 1 < w1.heap.size := by have := hb1.size; simp at this; omega
    have HWS : Hid (Calls Tryz.prog 32 #[.pointer (some ⟨w.heap.size + 1, 0, none⟩), .string ⟨(97 :: 110 :: 110 :: 97 :: 108 :: 105 :: 115 :: 116 :: 10 :: be 4 l.length).toArray⟩] w1 fun e w' =>
        e = .returned (.tuple #[.int .i64 13, .nilIface]) ∧ (Lib.IsBuilder 88 5 (w.heap.size + 1) (w.heap.size + 1) (bytesRow (markL ++ be 4 l.length)) w' ∧ Below (w.heap.size + 1) w1 w')) :=
      Lib.hid ((Builder_WriteString (w.heap.size + 1) (w.heap.size + 1) [] (markL ++ be 4 l.length) w1 hbl (by simp [markL]) (by omega)).mono fun e w' hh => ⟨hh.1, hh.2.1, build_below hbl hh.2.2 (by omega)⟩)
    have HMAP := Lib.hid hmapB
    have HB1 := Lib.hid hbw1
    clear hb1 hmapB hbl hbw1 hmm
    go_wp2_with fail
    refine HWS.out.mono ?_
    rintro e w2 ⟨rfl, hbl2, hb2⟩
    have HBL2 := Lib.hid hbl2
    have HMAP2 := Lib.hid ((hb2.block w.heap.size (by omega)).trans HMAP.out)
    have HB2 := Lib.hid (HB1.out.trans (hb2.mono (by omega)))
    have hsz2 : w.heap.size + 1 < w2.heap.size := by have := hb2.size; omega
    clear hbl2 hb2 HMAP HB1 HWS
    go_wp2_with fail
    go_loopw [20] (fun iv wr => PutRel w l iv wr) (fun iv _ => l.length - (intOf iv).toNat)
    case atStart =>
      refine ⟨0, [], markL ++ be 4 l.length, [], 0, by omega, rfl, rfl, by simp [markL], HMAP2.out, fun st => rfl, HBL2.out, HB2.out, ?_⟩
      rw [List.drop_zero]
    case round =>
      obtain ⟨k, L, t, m, c, hk, rfl, hL, ht, hmap, hcnt, hbl, hbw, hput⟩ := hrel
      have HMAP := Lib.hid hmap
      have HCNT := Lib.hid hcnt
      have HBL := Lib.hid hbl
      have HBW := Lib.hid hbw
      have HPUT := Lib.hid hput
      have HLL := Lib.hid hL
      have HWS : Hid (∀ w' s, Lib.IsBuilder 88 5 (w.heap.size + 1) (w.heap.size + 1) (bytesRow t) w' → s.length ≤ 1000 → w.heap.size + 1 ≤ w'.heap.size → Calls Tryz.prog 32 #[.pointer (some ⟨w.heap.size + 1, 0, none⟩), .string ⟨s.toArray⟩] w' fun e w'' => e = .returned (.tuple #[.int .i64 s.length, .nilIface]) ∧ Lib.IsBuilder 88 5 (w.heap.size + 1) (w.heap.size + 1) (bytesRow (t ++ s)) w'' ∧ Upd (BuildTouch (w.heap.size + 1) w') w' w'') :=
        Lib.hid (fun w' s h1 h2 h3 => Builder_WriteString (w.heap.size + 1) (w.heap.size + 1) t s w' h1 (by omega) h3)
      have hszr : w.heap.size + 1 < wr.heap.size := builder_lt hbl
      clear hmap hcnt hbl hbw hput hL
      by_cases hlt : k < l.length
      · obtain ⟨b, off, rfl, hb, d0, d1, d2, d3, d4⟩ := HCELLS.out k hlt
        have c0 := (HBW.out.cell (p := ⟨b, off + k * 5, none⟩) hb).trans d0
        have c1 := (HBW.out.cell (p := ⟨b, off + k * 5 + 1, none⟩) hb).trans d1
        have c2 := (HBW.out.cell (p := ⟨b, off + k * 5 + 2, none⟩) hb).trans d2
        have c3 := (HBW.out.cell (p := ⟨b, off + k * 5 + 3, none⟩) hb).trans d3
        have c4 := (HBW.out.cell (p := ⟨b, off + k * 5 + 4, none⟩) hb).trans d4
        have hsx := HS.out l[k] (List.getElem_mem hlt)
        have hdr : l.drop k = l[k] :: l.drop (k + 1) := List.drop_eq_getElem_cons hlt
        have HDR := Lib.hid hdr
        obtain ⟨x, hx⟩ : ∃ x, l[k] = x := ⟨_, rfl⟩
        rw [hx] at c0 c1 c2 c3 c4 hsx HDR
        clear d0 d1 d2 d3 d4 hdr hx
        obtain ⟨st, ver, ev⟩ := x
        simp only at c0 c1 c2 c3 c4 hsx
        have hk0 : (0 : Int) ≤ k := by omega
        have hk1 : (k : Int) < l.length := by omega
        have HW1 := Lib.hid (HBW.out.alloc HBW.out.size (.cells #[.string ⟨st.toArray⟩, .int .i64 ver, .string ⟨ev.ty.toArray⟩, .string ⟨ev.da.toArray⟩, .float .f64 ev.wt] 79))
        have HKX := Lib.hid (blk_new (w := wr) rfl (.cells #[.string ⟨st.toArray⟩, .int .i64 ver, .string ⟨ev.ty.toArray⟩, .string ⟨ev.da.toArray⟩, .float .f64 ev.wt] 79))
        have HMAP1 := Lib.hid (blk_alloc (o' := .cells #[.string ⟨st.toArray⟩, .int .i64 ver, .string ⟨ev.ty.toArray⟩, .string ⟨ev.da.toArray⟩, .float .f64 ev.wt] 79) HMAP.out)
        have HBL1 := Lib.hid (builder_below HBL.out ((Below.refl _ _).alloc (Nat.le_refl _) (.cells #[.string ⟨st.toArray⟩, .int .i64 ver, .string ⟨ev.ty.toArray⟩, .string ⟨ev.da.toArray⟩, .float .f64 ev.wt] 79)))
        obtain ⟨W, hW⟩ : ∃ W, wr.alloc (.cells #[.string ⟨st.toArray⟩, .int .i64 ver, .string ⟨ev.ty.toArray⟩, .string ⟨ev.da.toArray⟩, .float .f64 ev.wt] 79) = W := ⟨_, rfl⟩
        rw [hW] at HW1 HKX HMAP1 HBL1
        have hszW : W.heap.size = wr.heap.size + 1 := by rw [← hW]; simp
        have HW := Lib.hid hW
        clear hW
        have hkx := HKX.out
        have p_c0 : World.cell? W ⟨wr.heap.size, 0, none⟩ = some (.string ⟨st.toArray⟩) := by rw [cell_of_block hkx]; rfl
        have p_f0 : World.frozen? W ⟨wr.heap.size, 0, none⟩ = false := frozen_of_block hkx
        have p_c1 : World.cell? W ⟨wr.heap.size, 1, none⟩ = some (.int .i64 ver) := by rw [cell_of_block hkx]; rfl
        have p_f1 : World.frozen? W ⟨wr.heap.size, 1, none⟩ = false := frozen_of_block hkx
        have p_c2 : World.cell? W ⟨wr.heap.size, 2, none⟩ = some (.string ⟨ev.ty.toArray⟩) := by rw [cell_of_block hkx]; rfl
        have p_f2 : World.frozen? W ⟨wr.heap.size, 2, none⟩ = false := frozen_of_block hkx
        have p_c3 : World.cell? W ⟨wr.heap.size, 3, none⟩ = some (.string ⟨ev.da.toArray⟩) := by rw [cell_of_block hkx]; rfl
        have p_f3 : World.frozen? W ⟨wr.heap.size, 3, none⟩ = false := frozen_of_block hkx
        have p_c4 : World.cell? W ⟨wr.heap.size, 4, none⟩ = some (.float .f64 ev.wt) := by rw [cell_of_block hkx]; rfl
        have p_f4 : World.frozen? W ⟨wr.heap.size, 4, none⟩ = false := frozen_of_block hkx
        clear hkx p_f0 p_f1 p_f2 p_f3 p_f4
        have HST := Lib.hid (names_Stream st W (by unfold maxLen; omega))
        have hcondB : (streamB st = true ∧ checkE ev = 0 ∧ ver = cnt L st) ∨ streamB st = false ∨ (streamB st = true ∧ checkE ev ≠ 0) ∨ (streamB st = true ∧ checkE ev = 0 ∧ ver ≠ cnt L st) := by
          by_cases q1 : streamB st = true
          · by_cases q2 : checkE ev = 0
            · by_cases q3 : ver = cnt L st
              · exact .inl ⟨q1, q2, q3⟩
              · exact .inr (.inr (.inr ⟨q1, q2, q3⟩))
            · exact .inr (.inr (.inl ⟨q1, q2⟩))
          · exact .inr (.inl (by simpa using q1))
        rcases hcondB with ⟨q1, q2, q3⟩ | q1 | ⟨q1, q2⟩ | ⟨q1, q2, q3⟩
        · rw [q1] at HST
          have hcl := cnt_le L st
          have hLl := HLL.out
          have HCK := Lib.hid (fun w' => events_Check ev w' (by unfold maxLen; omega) (by unfold maxLen; omega))
          rw [q2] at HCK
          have HYES : Hid ((putG L (l.drop k)).map (fun q => t ++ q) = (putG (L ++ [⟨st, cnt L st, ev⟩]) (l.drop (k + 1))).map fun q => (t ++ (textL st ++ bytesE ev)) ++ q) := Lib.hid (by
            rw [HDR.out, putG, if_pos ⟨q1, q2, q3⟩, Option.map_map]
            congr 1
            funext q
            simp [List.append_assoc])
          have hst32 : st.length ≤ 32 := by unfold streamB at q1; exact (decide_eq_true_iff.1 q1).2
          have htx : (textL st).length ≤ 34 := by have := textL_length st (by omega); omega
          have hbe : (bytesE ev).length ≤ 228 := bytesE_le ev
          subst q3
          clear q1 q2
          go_wp2_with fail
          rw [HW.out]
          refine HST.out.mono ?_
          rintro e w' ⟨rfl, rfl⟩
          unfold Ev.val at HCK
          go_wp2_with fail
          refine (HCK.out _).mono ?_
          rintro e w3 ⟨rfl, hb3⟩
          have HMAP3 := Lib.hid (blk_kept hb3 HMAP1.out)
          have HKX3 := Lib.hid (blk_kept hb3 HKX.out)
          have HBL3 := Lib.hid (builder_below HBL1.out hb3)
          have HB3 := Lib.hid (HW1.out.trans (hb3.mono HW1.out.size))
          have hsz3 : wr.heap.size < w3.heap.size := by have := hb3.size; omega
          clear hb3 p_c0 p_c1 p_c2 p_c3 p_c4 c0 c1 c2 c3 c4
          have hkx := HKX3.out
          have p_c0 : World.cell? w3 ⟨wr.heap.size, 0, none⟩ = some (.string ⟨st.toArray⟩) := by rw [cell_of_block hkx]; rfl
          have p_f0 : World.frozen? w3 ⟨wr.heap.size, 0, none⟩ = false := frozen_of_block hkx
          have p_c1 : World.cell? w3 ⟨wr.heap.size, 1, none⟩ = some (.int .i64 (cnt L st)) := by rw [cell_of_block hkx]; rfl
          have p_f1 : World.frozen? w3 ⟨wr.heap.size, 1, none⟩ = false := frozen_of_block hkx
          have p_c2 : World.cell? w3 ⟨wr.heap.size, 2, none⟩ = some (.string ⟨ev.ty.toArray⟩) := by rw [cell_of_block hkx]; rfl
          have p_f2 : World.frozen? w3 ⟨wr.heap.size, 2, none⟩ = false := frozen_of_block hkx
          have p_c3 : World.cell? w3 ⟨wr.heap.size, 3, none⟩ = some (.string ⟨ev.da.toArray⟩) := by rw [cell_of_block hkx]; rfl
          have p_f3 : World.frozen? w3 ⟨wr.heap.size, 3, none⟩ = false := frozen_of_block hkx
          have p_c4 : World.cell? w3 ⟨wr.heap.size, 4, none⟩ = some (.float .f64 ev.wt) := by rw [cell_of_block hkx]; rfl
          have p_f4 : World.frozen? w3 ⟨wr.heap.size, 4, none⟩ = false := frozen_of_block hkx
          have hlk := run_lookup_getD (P := Tryz.prog) (t := 85) strKeys Tryz.underlying85 Tryz.underlying9 (Tryz.zeroInt _) HMAP3.out st
          rw [HCNT.out] at hlk
          have hup := run_mapUpdate (P := Tryz.prog) (t := 85) strKeys Tryz.underlying85 Tryz.underlying9 HMAP3.out st (.int .i64 (cnt L st + 1))
          dsimp only [strKeys] at hlk hup
          clear hkx p_f0 p_f1 p_f2 p_f3 p_f4
          go_wp2_with fail
          clear hlk hup p_c0 p_c1 p_c2 p_c3 p_c4
          have hu4 : Upd (· = w.heap.size) w3 (setBlock w3 w.heap.size (.map (strKeys.ents (aset m st (.int .i64 (cnt L st + 1)) c)) (aclock m st c))) := Upd.setBlock (S := (· = w.heap.size)) (Upd.refl _ _) HMAP3.out (.inl rfl)
          have hm4 := setBlock_at (o' := .map (strKeys.ents (aset m st (.int .i64 (cnt L st + 1)) c)) (aclock m st c)) HMAP3.out
          have hb4 := setBlock_below (o' := .map (strKeys.ents (aset m st (.int .i64 (cnt L st + 1)) c)) (aclock m st c)) HB3.out HMAP3.out (Nat.le_refl _)
          obtain ⟨w4, hw4⟩ : ∃ w4, setBlock w3 w.heap.size (.map (strKeys.ents (aset m st (.int .i64 (cnt L st + 1)) c)) (aclock m st c)) = w4 := ⟨_, rfl⟩
          rw [hw4] at hu4 hm4 hb4
          dsimp only [strKeys] at hw4
          rw [hw4]
          have HMAP4 := Lib.hid hm4
          have HKX4 := Lib.hid (hu4.kept HKX3.out (fun e => by have e' : wr.heap.size = w.heap.size := e; omega))
          have HBL4 := Lib.hid (builder_upd HBL3.out hu4 (fun k hk => by have e' : k = w.heap.size := hk; omega))
          have HB4 := Lib.hid hb4
          have hsz4 : wr.heap.size < w4.heap.size := Nat.lt_of_lt_of_le hsz3 hu4.size
          clear hu4 hm4 hw4 hb4
          have HKEEP : Hid (∀ (w' : World), w'.heap[wr.heap.size]? = w4.heap[wr.heap.size]? → w'.cell? ⟨wr.heap.size, 0, none⟩ = some (.string ⟨st.toArray⟩) ∧ w'.cell? ⟨wr.heap.size, 2, none⟩ = some (.string ⟨ev.ty.toArray⟩) ∧ w'.cell? ⟨wr.heap.size, 3, none⟩ = some (.string ⟨ev.da.toArray⟩) ∧ w'.cell? ⟨wr.heap.size, 4, none⟩ = some (.float .f64 ev.wt)) := Lib.hid (fun w' h => by
            have := h.trans HKX4.out
            exact ⟨by rw [cell_of_block this]; rfl, by rw [cell_of_block this]; rfl, by rw [cell_of_block this]; rfl, by rw [cell_of_block this]; rfl⟩)
          have HTX := Lib.hid (fun w' => nums_Text st w' (by unfold maxLen; omega))
          have HBY := Lib.hid (fun w' => events_Bytes ev w' (by unfold maxLen; omega) (by unfold maxLen; omega))
          unfold Ev.val at HBY
          have hl8 : ¬ 9223372036854775807 < (textL st).length + (bytesE ev).length := by omega
          go_region_held3 (fun w' => w'.cell? ⟨wr.heap.size, 0, none⟩ = some (.string ⟨st.toArray⟩) ∧ w'.cell? ⟨wr.heap.size, 2, none⟩ = some (.string ⟨ev.ty.toArray⟩) ∧ w'.cell? ⟨wr.heap.size, 3, none⟩ = some (.string ⟨ev.da.toArray⟩) ∧ w'.cell? ⟨wr.heap.size, 4, none⟩ = some (.float .f64 ev.wt))
            (first | exact HKEEP.out _ rfl | exact HKEEP.out _ (hbt.block _ hsz4) | exact HKEEP.out _ ((hbp.block _ (Nat.lt_of_lt_of_le hsz4 hbt.size)).trans (hbt.block _ hsz4)) | exact hkeep)
            ((first | (go_at_call 36; with_reducible refine (HTX.out _).mono ?_; rintro e w5 ⟨rfl, hbt⟩)
                    | (go_at_call 37; with_reducible refine (HBY.out _).mono ?_; rintro e w6 ⟨rfl, hbp⟩)
                    | (go_at_call 32; have hz5 : w4.heap.size ≤ w5.heap.size := hbt.size; have hz6 : w5.heap.size ≤ w6.heap.size := hbp.size; refine (HWS.out _ (textL st ++ bytesE ev) (builder_below (builder_below HBL4.out ((Below.refl _ _).drew.trans hbt)) hbp) (by rw [List.length_append]; omega) (by omega)).mono ?_; rintro e w7 ⟨rfl, hbl7, hu7⟩
                       have hkeep := HKEEP.out w7 ((hu7.block wr.heap.size (Nat.lt_of_lt_of_le (Nat.lt_of_lt_of_le hsz4 hbt.size) hbp.size) (build_apart (builder_below (builder_below HBL4.out ((Below.refl _ _).drew.trans hbt)) hbp) ((hbp.block _ (Nat.lt_of_lt_of_le hsz4 hbt.size)).trans ((hbt.block _ hsz4).trans HKX4.out)) (by decide) (by omega))).trans ((hbp.block _ (Nat.lt_of_lt_of_le hsz4 hbt.size)).trans (hbt.block _ hsz4)))
                       have HBL7 := Lib.hid hbl7
                       have HU7 := Lib.hid hu7)))
          have hz5 : w4.heap.size ≤ w5.heap.size := hbt.size
          have hz6 : w5.heap.size ≤ w6.heap.size := hbp.size
          have HBL6 := Lib.hid (builder_below (builder_below HBL4.out ((Below.refl _ _).drew.trans hbt)) hbp)
          have HMAP7 := Lib.hid (HU7.out.kept (blk_kept hbp (blk_kept hbt HMAP4.out)) (build_map HBL6.out (Nat.lt_succ_self _)))
          have HB7 := Lib.hid (HB4.out.trans ((((Below.refl w4.heap.size w4).drew.trans hbt).trans (hbp.mono hz5)).mono HB4.out.size) |>.trans ((build_below HBL6.out HU7.out (by omega)).mono (by omega)))
          rename_i hHeld
          clear hHeld hkeep hbl7 hu7 hbt hbp hl8
          go_wp2_with fail
          go_roundw
          case rel =>
            refine ⟨k + 1, L ++ [⟨st, cnt L st, ev⟩], t ++ (textL st ++ bytesE ev), aset m st (.int .i64 (cnt L st + 1)) c, aclock m st c, by omega, by go_num, by simp [hLl], by simp only [List.length_append]; omega, HMAP7.out, ?_, HBL7.out, HB7.out, HPUT.out.trans HYES.out⟩
            intro st'
            rw [aget_aset, cnt_snoc]
            by_cases he : st' = st
            · subst he; simp
            · have := HCNT.out st'
              simp [he, this]
          case measure => simp [intOf]; omega
        · rw [q1] at HST
          have HNO : Hid (putC l = ([], 2)) := Lib.hid (by
            have h0 := HPUT.out
            rw [HDR.out, putG, if_neg (by rintro ⟨h, -⟩; simp only at h; rw [q1] at h; cases h)] at h0
            simp only [Option.map_none, Option.map_eq_none_iff] at h0
            unfold putC
            rw [if_neg hlong, h0])
          clear q1
          go_wp2_with fail
          rw [HW.out]
          refine HST.out.mono ?_
          rintro e w' ⟨rfl, rfl⟩
          go_wp2_with fail
          go_ret2
          exact ⟨by rw [HNO.out]; rfl, HW1.out⟩
        · rw [q1] at HST
          have HCK := Lib.hid (fun w' => events_Check ev w' (by unfold maxLen; omega) (by unfold maxLen; omega))
          have hcb : ((checkE ev : Int) != 0) = true := by rw [bne_iff_ne]; omega
          have HNO : Hid (putC l = ([], 2)) := Lib.hid (by
            have h0 := HPUT.out
            rw [HDR.out, putG, if_neg (by rintro ⟨-, h, -⟩; exact q2 h)] at h0
            simp only [Option.map_none, Option.map_eq_none_iff] at h0
            unfold putC
            rw [if_neg hlong, h0])
          clear q1 q2
          go_wp2_with fail
          rw [HW.out]
          refine HST.out.mono ?_
          rintro e w' ⟨rfl, rfl⟩
          unfold Ev.val at HCK
          go_wp2_with fail
          refine (HCK.out _).mono ?_
          rintro e w3 ⟨rfl, hb3⟩
          have HB3 := Lib.hid (HW1.out.trans (hb3.mono HW1.out.size))
          clear hb3 p_c0 p_c1 p_c2 p_c3 p_c4
          go_wp2_with fail
          go_ret2
          exact ⟨by rw [HNO.out]; rfl, HB3.out⟩
        · rw [q1] at HST
          have HCK := Lib.hid (fun w' => events_Check ev w' (by unfold maxLen; omega) (by unfold maxLen; omega))
          rw [q2] at HCK
          have hvb : (ver != (cnt L st : Int)) = true := by rw [bne_iff_ne]; exact q3
          have HNO : Hid (putC l = ([], 2)) := Lib.hid (by
            have h0 := HPUT.out
            rw [HDR.out, putG, if_neg (by rintro ⟨-, -, h⟩; exact q3 h)] at h0
            simp only [Option.map_none, Option.map_eq_none_iff] at h0
            unfold putC
            rw [if_neg hlong, h0])
          clear q1 q2 q3
          go_wp2_with fail
          rw [HW.out]
          refine HST.out.mono ?_
          rintro e w' ⟨rfl, rfl⟩
          unfold Ev.val at HCK
          go_wp2_with fail
          refine (HCK.out _).mono ?_
          rintro e w3 ⟨rfl, hb3⟩
          have HMAP3 := Lib.hid (blk_kept hb3 HMAP1.out)
          have HKX3 := Lib.hid (blk_kept hb3 HKX.out)
          have HB3 := Lib.hid (HW1.out.trans (hb3.mono HW1.out.size))
          clear hb3 p_c0 p_c1 p_c2 p_c3 p_c4
          have hkx := HKX3.out
          have p_c0 : World.cell? w3 ⟨wr.heap.size, 0, none⟩ = some (.string ⟨st.toArray⟩) := by rw [cell_of_block hkx]; rfl
          have p_f0 : World.frozen? w3 ⟨wr.heap.size, 0, none⟩ = false := frozen_of_block hkx
          have p_c1 : World.cell? w3 ⟨wr.heap.size, 1, none⟩ = some (.int .i64 ver) := by rw [cell_of_block hkx]; rfl
          have p_f1 : World.frozen? w3 ⟨wr.heap.size, 1, none⟩ = false := frozen_of_block hkx
          have p_c2 : World.cell? w3 ⟨wr.heap.size, 2, none⟩ = some (.string ⟨ev.ty.toArray⟩) := by rw [cell_of_block hkx]; rfl
          have p_f2 : World.frozen? w3 ⟨wr.heap.size, 2, none⟩ = false := frozen_of_block hkx
          have p_c3 : World.cell? w3 ⟨wr.heap.size, 3, none⟩ = some (.string ⟨ev.da.toArray⟩) := by rw [cell_of_block hkx]; rfl
          have p_f3 : World.frozen? w3 ⟨wr.heap.size, 3, none⟩ = false := frozen_of_block hkx
          have p_c4 : World.cell? w3 ⟨wr.heap.size, 4, none⟩ = some (.float .f64 ev.wt) := by rw [cell_of_block hkx]; rfl
          have p_f4 : World.frozen? w3 ⟨wr.heap.size, 4, none⟩ = false := frozen_of_block hkx
          have hlk := run_lookup_getD (P := Tryz.prog) (t := 85) strKeys Tryz.underlying85 Tryz.underlying9 (Tryz.zeroInt _) HMAP3.out st
          rw [HCNT.out] at hlk
          dsimp only [strKeys] at hlk
          clear hkx p_f0 p_f1 p_f2 p_f3 p_f4
          go_wp2_with fail
          go_ret2
          exact ⟨by rw [HNO.out]; rfl, HB3.out⟩
      · obtain rfl : k = l.length := by omega
        have hpl := putG_len l []
        have HT : Hid (∃ q, putG [] l = some q ∧ t = markL ++ be 4 l.length ++ q) := Lib.hid (by
          have h0 := HPUT.out
          rw [List.drop_length, putG, Option.map_some] at h0
          obtain ⟨q, hq, e⟩ := Option.map_eq_some_iff.1 h0
          exact ⟨q, hq, by rw [e]; simp⟩)
        have HYES : Hid (putC l = (sealL t, 0)) := Lib.hid (by
          obtain ⟨q, hq, e⟩ := HT.out
          unfold putC
          rw [if_neg hlong, hq, e])
        have HSTR := Lib.hid (Builder_String (w.heap.size + 1) (w.heap.size + 1) t wr HBL.out (by omega))
        go_wp2_with fail
        refine HSTR.out.mono ?_
        rintro e w2 ⟨rfl, hb2⟩
        have HB2 := Lib.hid (HBW.out.trans (hb2.mono (by omega)))
        clear hb2
        go_wp2_with fail
        refine (sums_Seal t w2 (by omega)).mono ?_
        rintro e w3 ⟨rfl, hb3⟩
        have HB3 := Lib.hid (HB2.out.trans (hb3.mono HB2.out.size))
        clear hb3
        go_wp2_with fail
        go_ret2
        exact ⟨by rw [HYES.out]; rfl, HB3.out⟩
end Go.Proofs.YtamlhndibcafgaaGreatDoor
