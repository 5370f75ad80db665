/- Two entries held against each other. -/
import Derived.Test.YtamlhndibcafgaaGreatDoorEnt0
import Derived.Laws.StructEq
namespace Go.Proofs.YtamlhndibcafgaaGreatDoor
open Go.RowKit Go.MapKept

theorem Tryz.fieldsEntry : (Tryz.prog.fieldsOf 142).toList.map (fun f => (f.name == "_", f.type, f.offset)) = [(false, 54, 0), (false, 3, 1), (false, 3, 2)] := by kernel_rfl
theorem Tryz.stoodEntry : Tryz.prog.stoodInHeld 142 = false := by kernel_rfl
theorem Tryz.guardEntry : Tryz.prog.eqGuardType Tryz.prog.depth 142 = false := by kernel_rfl
theorem run_eqField {f : Field} {t : TypeId} {k : IntKind} (d : Nat) (xs ys : Array Value) (fs : List Field) (a b : Int) (w : World) (hn : (f.name == "_") = false) (ht : f.type = t) (hu : Tryz.prog.underlying t = some (.int k))
    (hx : (part t xs f.offset).run Tryz.prog w = .ok (.int k a) w) (hy : (part t ys f.offset).run Tryz.prog w = .ok (.int k b) w) :
    (Op.eqFields (d + 1) xs ys (f :: fs)).run Tryz.prog w = if a = b then (Op.eqFields (d + 1) xs ys fs).run Tryz.prog w else .ok false w := by
  have hne : f.name ≠ "_" := by simpa using hn
  rw [Op.eqFields, if_pos hne]
  subst ht
  simp only [Sem.run_bind, hx, hy, Result.andThen_ok, run_equalIn_int w d _ k k a b hu]
  by_cases h : a = b
  · subst h; simp
  · have : (a == b) = false := by rw [beq_eq_false_iff_ne]; exact h
    simp [this, h]
set_option maxRecDepth 100000 in
theorem run_eql_entry (a b : En) (w : World) : (binOp .eql 142 a.val b.val).run Tryz.prog w = .ok (.bool (decide (a = b))) w := by
  unfold En.val
  have e := run_equalIn_agg (P := Tryz.prog) w 9999 142 #[.int .u64 a.h, .int .i64 a.v, .int .i64 a.p] #[.int .u64 b.h, .int .i64 b.v, .int .i64 b.p] Tryz.underlying142 Tryz.stoodEntry
  rw [run_eql_struct, e]
  obtain ⟨f0, f1, f2, hf, h0, h1, h2⟩ : ∃ f0 f1 f2 : Field, (Tryz.prog.fieldsOf 142).toList = [f0, f1, f2] ∧ (f0.name == "_", f0.type, f0.offset) = (false, 54, 0) ∧ (f1.name == "_", f1.type, f1.offset) = (false, 3, 1) ∧ (f2.name == "_", f2.type, f2.offset) = (false, 3, 2) := by
    obtain ⟨f0, l1, e1, p0, h1⟩ := List.map_eq_cons_iff.1 Tryz.fieldsEntry
    obtain ⟨f1, l2, e2, p1, h2⟩ := List.map_eq_cons_iff.1 h1
    obtain ⟨f2, l3, e3, p2, h3⟩ := List.map_eq_cons_iff.1 h2
    rw [List.map_eq_nil_iff] at h3
    subst h3 e3 e2
    exact ⟨f0, f1, f2, e1, p0, p1, p2⟩
  simp only [Prod.mk.injEq] at h0 h1 h2
  rw [hf, run_eqField 9998 _ _ _ a.h b.h w h0.1 h0.2.1 Tryz.underlying54 (by rw [h0.2.2]; kernel_rfl) (by rw [h0.2.2]; kernel_rfl),
    run_eqField 9998 _ _ _ a.v b.v w h1.1 h1.2.1 Tryz.underlying3 (by rw [h1.2.2]; kernel_rfl) (by rw [h1.2.2]; kernel_rfl),
    run_eqField 9998 _ _ _ a.p b.p w h2.1 h2.2.1 Tryz.underlying3 (by rw [h2.2.2]; kernel_rfl) (by rw [h2.2.2]; kernel_rfl)]
  have hd : decide (a = b) = (decide (a.h = b.h) && (decide (a.v = b.v) && decide (a.p = b.p))) := by
    obtain ⟨x1, x2, x3⟩ := a
    obtain ⟨y1, y2, y3⟩ := b
    simp only [En.mk.injEq]
    by_cases q1 : x1 = y1 <;> by_cases q2 : x2 = y2 <;> by_cases q3 : x3 = y3 <;> simp [q1, q2, q3]
  rw [hd]
  have c1 : ((a.h : Int) = b.h) ↔ a.h = b.h := by omega
  have c2 : ((a.v : Int) = b.v) ↔ a.v = b.v := by omega
  have c3 : ((a.p : Int) = b.p) ↔ a.p = b.p := by omega
  by_cases q1 : a.h = b.h <;> by_cases q2 : a.v = b.v <;> by_cases q3 : a.p = b.p <;> simp only [c1, c2, c3, q1, q2, q3, Op.eqFields, if_true, if_false, Sem.run_pure] <;> rfl
end Go.Proofs.YtamlhndibcafgaaGreatDoor
