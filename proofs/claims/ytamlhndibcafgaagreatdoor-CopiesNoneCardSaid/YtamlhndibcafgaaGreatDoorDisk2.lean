/- Contracts of package disk: Create, Append, Read. -/
import Derived.Test.YtamlhndibcafgaaGreatDoorDisk
import Derived.Lib.AppendStr
namespace Go.Proofs.YtamlhndibcafgaaGreatDoor
open Go.RowKit Go.MapKept
open Go.ChangeMaps (setBlock)

def CreatePost (b : Nat) (D : Dk) (n : List UInt8) (w : World) (e : Ending) (w' : World) : Prop :=
  e = .returned (.int .i64 0) ∧ Upd (fun k => k = b ∨ k = D.bM) w w' ∧ ∃ fb, w.heap.size ≤ fb ∧ DiskAt w' b (D.step.add n fb)
set_option maxRecDepth 100000 in
set_option maxHeartbeats 1000000 in
theorem disk_Create (b : Nat) (D : Dk) (w : World) (n : List UInt8) (h : DiskAt w b D) (hd : D.down = false) (hf : D.find n = none) (hnm : nameB n = true) (hl : D.files.length < 400) (hfi : D.fine) :
    Calls Tryz.prog 164 #[.pointer (some ⟨b, 0, none⟩), .string ⟨n.toArray⟩] w (CreatePost b D n w) := by
  have hr := disk_ready b D w h
  rw [hd] at hr
  have HR := Lib.hid hr
  have c3 : w.cell? ⟨b, 3, none⟩ = some (.map (some D.bM)) := by rw [cell_of_block h.blk]; rfl
  have hlk := (run_lookup_none (P := Tryz.prog) (t := 157) strKeys Tryz.underlying157 Tryz.underlying9 (Tryz.zeroFile _) h.map (k := n) (by rw [aget_files]; unfold Dk.find at hf; rw [hf]; rfl)).2
  dsimp only [strKeys] at hlk
  have hle := run_len_map (P := Tryz.prog) (t := 157) (ty := 3) strKeys Tryz.underlying157 h.map
  rw [List.length_map] at hle
  have HL := Lib.hid hle
  have hnl : n.length ≤ 12 := by unfold nameB at hnm; simp at hnm; exact hnm.2
  have HFL := Lib.hid (disk_fails_no b D w h hfi)
  have HNM := Lib.hid (disk_name n w (by unfold maxLen; omega))
  have hn := find_none hf
  have HF := Lib.hid hn
  have HH := Lib.hid h
  clear hr hf hn h
  go_enter Tryz.func164, Tryz.ntmps164
  go_wp2_with fail
  refine HR.out.mono ?_
  rintro e w' ⟨rfl, rfl⟩
  simp only [Bool.false_eq_true, if_false]
  clear hle
  go_wp2_with fail
  refine HNM.out.mono ?_
  rintro e w' ⟨rfl, rfl⟩
  rw [hnm]
  clear hlk
  have hle := HL.out
  go_wp2_with fail
  refine HFL.out.mono ?_
  rintro e w1 ⟨rfl, hD1, hu1⟩
  have c3' : w1.cell? ⟨b, 3, none⟩ = some (.map (some D.bM)) := by rw [cell_of_block hD1.blk]; rfl
  have hm1 : w1.heap[D.bM]? = some (.map (strKeys.ents (D.files.map Fl.ent)) D.clk) := hD1.map
  have hup := run_mapUpdate_str (P := Tryz.prog) (w := w1.alloc (.cells #[.slice none 0 0, .int .i64 0] 162)) (t := 157) Tryz.underlying157 Tryz.underlying9 (blk_alloc hm1) n (.pointer (some ⟨w1.heap.size, 0, none⟩))
  rw [aset_new HF.out, aclock_new HF.out] at hup
  have HD1 := Lib.hid hD1
  have HM1 := Lib.hid hm1
  have hz := hu1.size
  clear c3 hle hD1 HL hm1
  go_wp2_with fail
  go_ret
  have hm2 := blk_alloc (o' := .cells #[.slice none 0 0, .int .i64 0] 162) HM1.out
  have hu2 : Upd (fun k => k = D.bM) w1 (setBlock (w1.alloc (.cells #[.slice none 0 0, .int .i64 0] 162)) D.bM (.map (strKeys.ents (D.files.map Fl.ent ++ [⟨n, .pointer (some ⟨w1.heap.size, 0, none⟩), D.clk⟩])) (D.clk + 1))) :=
    Upd.setBlock ((Upd.refl _ _).alloc _) hm2 (.inl rfl)
  refine ⟨rfl, Upd.then (hu1.mono (fun _ _ h => .inl h)) hu2 (fun j hj => .inl (.inr hj)), _, hz, HD1.out.add HF.out hu2 (setBlock_at hm2) ?_⟩
  rw [setBlock_other hm2 (by have := blk_lt HM1.out; show w1.heap.size ≠ D.bM; omega)]
  exact heap_alloc_new _ _

theorem strCells_bytes (s : List UInt8) : Lib.strCells ⟨s.toArray⟩ = bytesRow s := rfl
theorem DataAt.of_row {w : World} {base : Nat} {v : Value} {l : List UInt8} (h : w.ownsRow base 5 1 v l.length (bytesRow l)) : DataAt w v l := by
  rcases h.2 with ⟨rfl, h0⟩ | ⟨g, cap, cur, rfl, _, hg, hn, hm, hs, ht⟩
  · exact .inl ⟨rfl, List.eq_nil_of_length_eq_zero h0⟩
  · exact .inr ⟨g, cap, cur, rfl, hg, hn, by omega, hm, by simpa using ht⟩
theorem bytesRow_append (a b : List UInt8) : bytesRow (a ++ b) = bytesRow a ++ bytesRow b := by simp [bytesRow]
theorem cells_of_take {w : World} {g : Nat} {cur : Array Value} {e : TypeId} {fz : Nat × Nat} {xs : List Value} {n : Nat} (hg : w.heap[g]? = some (.cells cur e fz)) (ht : cur.toList.take n = xs) :
    ∀ j u, xs[j]? = some u → w.cell? ((⟨g, 0, none⟩ : Addr).add j) = some u := by
  intro j u hu
  have hadd : (⟨g, 0, none⟩ : Addr).add j = ⟨g, j, none⟩ := by unfold Addr.add; split <;> simp_all
  rw [hadd, cell_of_block hg]
  rw [← ht, List.getElem?_take] at hu
  split at hu
  · simpa using hu
  · cases hu
/-- append(data, s...): the bytes are behind, in the old row or in a new one. -/
theorem run_append_data {w : World} {dv : Value} {l : List UInt8} (h : DataAt w dv l) (s : List UInt8) (ty : TypeId) (hb : l.length + s.length ≤ 4194304) :
    ∃ dv' w', (Builtin.append_ #[31, 9] ty #[dv, .string ⟨s.toArray⟩]).run Tryz.prog w = .ok dv' w' ∧ DataAt w' dv' (l ++ s) ∧ Upd (fun k => dv.ownBlock = some k) w w' ∧
      (∀ k, dv'.ownBlock = some k → dv.ownBlock = some k ∨ w.heap.size ≤ k) := by
  obtain ⟨i0, hi, hz0, hz1, hz2⟩ := info_parts Tryz.info5
  have hS : (⟨s.toArray⟩ : ByteArray).size = s.length := str_size s
  rcases h with ⟨rfl, rfl⟩ | ⟨g, cap, cur, rfl, hg, hlc, hcc, hcm, htake⟩
  · obtain ⟨v', w', hr, ho, hgr, hiff⟩ := Lib.run_append_own_string (P := Tryz.prog) w w.heap.size 31 9 ty 5 i0 Tryz.underlying31 Tryz.underlying9 hi hz0 hz1 hz2 (.slice none 0 0) 0 [] (World.ownsRow_nil _ _ _ _) ⟨s.toArray⟩
      (by rw [hS]; unfold maxLen; omega) (by rw [hS]; omega) (Nat.le_refl _)
    rw [hS, Nat.zero_add] at ho
    refine ⟨v', w', hr, DataAt.of_row (base := w.heap.size) (by simpa [strCells_bytes] using ho), ⟨hgr.os, hgr.tape, hgr.output, hgr.size, fun k hk _ => hgr.block k hk (by simp [Value.ownBlock])⟩, fun k hk => .inr (ho.lt k hk).1⟩
  · by_cases hroom : l.length + s.length ≤ cap
    · have hr := Lib.run_append_room_string (P := Tryz.prog) w 31 9 ty 5 i0 Tryz.underlying31 Tryz.underlying9 hi hz1 g l.length cap cur hg ⟨s.toArray⟩ (by rw [hS]; exact hroom) (by rw [hS]; omega)
      rw [hS] at hr
      refine ⟨_, _, hr, .inr ⟨g, cap, _, by rw [List.length_append], setRow_heap w g cur _ _ _ hg, by simpa using hroom, ?_, hcm, ?_⟩, ⟨rfl, rfl, rfl, by simp, fun k _ hk => setRow_other w g k _ (fun e => hk (by simp [Value.ownBlock, e]))⟩, fun k hk => .inl hk⟩
      · simp [strCells_bytes, bytesRow_length]; omega
      · rw [htake, strCells_bytes, ← bytesRow_append, ← bytesRow_length (l ++ s)]
        exact List.take_left
    · have hr := Lib.run_append_grow_string (P := Tryz.prog) w 31 9 ty 5 i0 (.int .u8 0) Tryz.underlying31 Tryz.underlying9 hi hz0 ⟨g, 0, none⟩ l.length cap (bytesRow l) (by rw [bytesRow_length, hz1, Nat.mul_one]) (cells_of_take hg htake) ⟨s.toArray⟩
        (by rw [hS]; omega) (by rw [hS]; omega) (by rw [hS, hz2]; exact growslice_fits (by omega) (by omega))
      rw [hS] at hr
      have hge := grownCap_ge w (l.length + s.length) cap 5
      have hcm' := grownCap_le_maxLen w (l.length + s.length) cap 5 (by unfold maxLen; omega)
      refine ⟨_, _, hr, .inr ⟨w.heap.size, _, _, by rw [List.length_append], heap_alloc_new w.drew _, by simpa using hge, ?_, hcm', ?_⟩, ⟨rfl, rfl, rfl, by simp, fun k hk _ => Below.heap_alloc w.drew _ k hk⟩, fun k hk => ?_⟩
      · have hz1' : (Value.int IntKind.u8 0).cells.size = 1 := rfl
        simp [strCells_bytes, bytesRow_length, size_zeroCells, hz1']; omega
      · simp only [Array.toList_append, List.append_assoc, strCells_bytes]
        rw [← List.append_assoc, ← bytesRow_append, ← bytesRow_length (l ++ s)]
        exact List.take_left
      · simp only [Value.ownBlock, Option.some.injEq] at hk; right; omega

/-- The operation, for the walk. -/
theorem wpList_append_data {w : World} {ops : Array Oper} {rest : List Oper} {o : Oper} {a : Act} {Q : Exit → Act → World → Prop} (hgd : o.guard = none) (sl x : Operand)
    (ho : o.op = .call { callee := .builtin .append, args := #[sl, x], argTypes := #[31, 9] })
    (dv : Value) (l : List UInt8) (h : DataAt w dv l) (hs : a.eval sl = dv) (s : List UInt8) (hx : a.eval x = .string ⟨s.toArray⟩) (hb : l.length + s.length ≤ 4194304)
    (hK : ∀ dv' w', DataAt w' dv' (l ++ s) → Upd (fun k => dv.ownBlock = some k) w w' → (∀ k, dv'.ownBlock = some k → dv.ownBlock = some k ∨ w.heap.size ≤ k) → wpList Tryz.prog ops Q rest (a.put o.dst dv') w') :
    wpList Tryz.prog ops Q (o :: rest) a w := by
  refine wpList_plain hgd fun K hK' => ?_
  obtain ⟨v', w', hr, h2, h3, h4⟩ := run_append_data h s o.type hb
  unfold Oper.wp execOp
  simp only [ho, resolve, invoke, builtin, Sem.run_bind, Sem.run_pure, Result.andThen_ok, List.map_toArray, List.map_cons, List.map_nil, hs, hx, hr]
  exact hK' _ _ (hK v' w' h2 h3 h4)

theorem names_inj {l : List Fl} (h : l.Pairwise (fun f g => f.name ≠ g.name)) {f g : Fl} (hf : f ∈ l) (hg : g ∈ l) (e : f.name = g.name) : f = g := by
  induction l with
  | nil => cases hf
  | cons x l ih =>
    rw [List.pairwise_cons] at h
    simp only [List.mem_cons] at hf hg
    rcases hf with rfl | hf <;> rcases hg with rfl | hg
    · rfl
    · exact absurd e (h.1 g hg)
    · exact absurd e.symm (h.1 f hf)
    · exact ih h.2 hf hg
theorem map_other {l : List Fl} {f' : Fl} (h : ∀ g ∈ l, g.name ≠ f'.name) : (l.map fun g => if g.name = f'.name then f' else g) = l := by
  rw [List.map_congr_left (g := id) (fun g hg => by simp [h g hg])]; simp
theorem sum_upd {l : List Fl} (h : l.Pairwise (fun f g => f.name ≠ g.name)) {f f' : Fl} (hf : f ∈ l) (hn : f'.name = f.name) :
    ((l.map fun g => if g.name = f'.name then f' else g).map fun f => f.data.length).sum + f.data.length = (l.map fun f => f.data.length).sum + f'.data.length := by
  induction l with
  | nil => cases hf
  | cons x l ih =>
    rw [List.pairwise_cons] at h
    simp only [List.mem_cons] at hf
    rcases hf with rfl | hf
    · rw [List.map_cons, if_pos hn.symm, map_other (fun g hg => by rw [hn]; exact fun e => h.1 g hg e.symm)]
      simp only [List.map_cons, List.sum_cons]; omega
    · have := ih h.2 hf
      rw [List.map_cons, if_neg (by rw [hn]; exact h.1 f hf)]
      simp only [List.map_cons, List.sum_cons]; omega
/-- A file is another one. -/
def Dk.upd (D : Dk) (f' : Fl) : Dk := { D with files := D.files.map fun g => if g.name = f'.name then f' else g }
theorem DiskAt.upd {w w' : World} {b : Nat} {D : Dk} {f f' : Fl} (h : DiskAt w b D) (hf : f ∈ D.files) (hn : f'.name = f.name) (hfb : f'.fb = f.fb) (hbo : f'.born = f.born) (used : Nat) (huc : used ≤ D.cap)
    (hu : Upd (fun k => k = b ∨ k = f.fb ∨ f.dv.ownBlock = some k) w w')
    (hblk : w'.heap[b]? = some (.cells { D with used := used }.cells 159))
    (hfile : w'.heap[f.fb]? = some (.cells f'.cells 162)) (hdata : DataAt w' f'.dv f'.data) (hown : ∀ k, f'.dv.ownBlock = some k → f.dv.ownBlock = some k ∨ w.heap.size ≤ k)
    (hsz : f'.sync ≤ f'.data.length) (hsum : used + f.data.length = D.used + f'.data.length) : DiskAt w' b ({ D with used := used }.upd f') := by
  have hmem : ∀ g, g ∈ ({ D with used := used }.upd f').files → g = f' ∨ (g ∈ D.files ∧ g.name ≠ f.name) := by
    intro g hg
    simp only [Dk.upd, List.mem_map] at hg
    obtain ⟨x, hx, rfl⟩ := hg
    by_cases hnx : x.name = f'.name
    · rw [if_pos hnx]; exact .inl rfl
    · rw [if_neg hnx]; exact .inr ⟨hx, by rw [← hn]; exact hnx⟩
  have hfar : ∀ g ∈ D.files, g.name ≠ f.name → (¬ (g.fb = b ∨ g.fb = f.fb ∨ f.dv.ownBlock = some g.fb)) ∧ ∀ k, g.dv.ownBlock = some k → ¬ (k = b ∨ k = f.fb ∨ f.dv.ownBlock = some k) := by
    intro g hg hne
    have h2 := h.two g hg f hf hne
    refine ⟨?_, fun k hk => ?_⟩
    · rintro (e | e | e)
      · exact (h.fbs g hg).1 e
      · exact h2.1 e
      · exact h.own2 g hg f hf e
    · rintro (e | e | e)
      · exact (h.own g hg k hk).1 e
      · exact h.own2 f hf g hg (by rw [hk, e])
      · exact h2.2 k hk e
  refine { blk := hblk, map := ?_, file := ?_, data := ?_, bb := h.bb, fbs := ?_, own := ?_, own2 := ?_, two := ?_, names := ?_, small := ?_, sizes := ?_, sum := ?_ }
  · have e : ({ D with used := used }.upd f').files.map Fl.ent = D.files.map Fl.ent := by
      simp only [Dk.upd, List.map_map]
      apply List.map_congr_left
      intro g hg
      simp only [Function.comp_apply]
      by_cases hng : g.name = f'.name
      · rw [if_pos hng]
        have : g = f := names_inj h.names hg hf (by rw [hng, hn])
        subst this
        simp [Fl.ent, hn, hfb, hbo]
      · rw [if_neg hng]
    rw [e]
    exact hu.kept h.map (by rintro (e | e | e); exact h.bb e.symm; exact (h.fbs f hf).2 e.symm; exact (h.own f hf _ e).2 rfl)
  · intro g hg
    rcases hmem g hg with rfl | ⟨hg', hne⟩
    · rw [hfb]; exact hfile
    · exact hu.kept (h.file g hg') (hfar g hg' hne).1
  · intro g hg
    rcases hmem g hg with rfl | ⟨hg', hne⟩
    · exact hdata
    · exact (h.data g hg').kept hu (hfar g hg' hne).2
  · intro g hg
    rcases hmem g hg with rfl | ⟨hg', hne⟩
    · rw [hfb]; exact h.fbs f hf
    · exact h.fbs g hg'
  · intro g hg k hk
    rcases hmem g hg with rfl | ⟨hg', hne⟩
    · rcases hown k hk with e | e
      · exact h.own f hf k e
      · have := blk_lt h.blk; have := blk_lt h.map
        exact ⟨by omega, by show k ≠ D.bM; omega⟩
    · exact h.own g hg' k hk
  · intro g hg x hx
    rcases hmem g hg with rfl | ⟨hg', hne⟩ <;> rcases hmem x hx with rfl | ⟨hx', hne'⟩
    · intro e
      rcases hown _ e with e | e
      · rw [hfb] at e; exact h.own2 f hf f hf e
      · have := blk_lt (h.file f hf); omega
    · rw [hfb]; exact h.own2 f hf x hx'
    · intro e
      rcases hown _ e with e | e
      · exact h.own2 g hg' f hf e
      · have := blk_lt (h.file g hg'); omega
    · exact h.own2 g hg' x hx'
  · intro g hg x hx hgx
    rcases hmem g hg with rfl | ⟨hg', hne⟩ <;> rcases hmem x hx with rfl | ⟨hx', hne'⟩
    · exact absurd rfl hgx
    · have h2 := h.two f hf x hx' (fun e => hne' e.symm)
      refine ⟨by rw [hfb]; exact h2.1, fun k hk => ?_⟩
      rcases hown k hk with e | e
      · exact h2.2 k e
      · intro e2; have := (h.data x hx').lt e2; omega
    · have h2 := h.two g hg' f hf hne
      refine ⟨by rw [hfb]; exact h2.1, fun k hk e2 => ?_⟩
      rcases hown k e2 with e | e
      · exact h2.2 k hk e
      · have := (h.data g hg').lt hk; omega
    · exact h.two g hg' x hx' hgx
  · show (D.files.map _).Pairwise _
    rw [List.pairwise_map]
    refine h.names.imp_of_mem ?_
    intro g x hg hx hne
    by_cases hng : g.name = f'.name <;> by_cases hnx : x.name = f'.name
    · exact absurd (hng.trans hnx.symm) hne
    · rw [if_pos hng, if_neg hnx]; exact fun e => hnx e.symm
    · rw [if_neg hng, if_pos hnx]; exact hng
    · rw [if_neg hng, if_neg hnx]; exact hne
  · exact ⟨h.small.1, huc, h.small.2.2⟩
  · intro g hg
    rcases hmem g hg with rfl | ⟨hg', hne⟩
    · exact hsz
    · exact h.sizes g hg'
  · have := sum_upd h.names hf hn
    have h2 := h.sum
    show (({ D with used := used }.upd f').files.map fun g : Fl => g.data.length).sum = used
    have e : ({ D with used := used }.upd f').files = D.files.map fun g => if g.name = f'.name then f' else g := rfl
    rw [e]
    omega
end Go.Proofs.YtamlhndibcafgaaGreatDoor
