import Derived.Test.YtlgdiloddphgnaaW12
namespace Go.Proofs.Ytlgdiloddphgnaa
open Go.RowKit

theorem state_box {w : World} {b : Nat} {c0 c1 c2 c3 c4 : Value} {e : TypeId} (h : w.heap[b]? = some (.cells #[c0, c1, c2, c3, c4] e (0, 0))) :
    w.cell? ⟨b, 0, none⟩ = some c0 ∧ w.cell? ⟨b, 1, none⟩ = some c1 ∧ w.cell? ⟨b, 2, none⟩ = some c2 ∧ w.cell? ⟨b, 3, none⟩ = some c3 ∧ w.cell? ⟨b, 4, none⟩ = some c4 ∧ (∀ j, w.frozen? ⟨b, j, none⟩ = false) := by
  obtain ⟨h1, h2⟩ := box_facts h
  refine ⟨?_, ?_, ?_, ?_, ?_, h2⟩ <;> (rw [h1]; rfl)
theorem record_box {w : World} {b : Nat} {c0 c1 c2 c3 : Value} {e : TypeId} (h : w.heap[b]? = some (.cells #[c0, c1, c2, c3] e (0, 0))) :
    w.cell? ⟨b, 0, none⟩ = some c0 ∧ w.cell? ⟨b, 1, none⟩ = some c1 ∧ w.cell? ⟨b, 2, none⟩ = some c2 ∧ w.cell? ⟨b, 3, none⟩ = some c3 ∧ (∀ j, w.frozen? ⟨b, j, none⟩ = false) := by
  obtain ⟨h1, h2⟩ := box_facts h
  refine ⟨?_, ?_, ?_, ?_, h2⟩ <;> (rw [h1]; rfl)

set_option maxHeartbeats 400000 in
/-- colandermade.State -/
theorem madeState_any {S : Nat → Prop} (s : StateD) (w : World) (A : Option Addr) (n cap : Nat) (h : Sl EntryK S w A n cap s.log) (hn : n ≤ 70) (hsm : ∀ x ∈ s.log, SmallE x) :
    Calls Try.prog 11 #[.agg #[.int .i64 s.view, .int .i64 s.normal, .int .i64 s.commit, .int .i64 s.active, .slice A n cap]] w fun e w' =>
      ∃ A' c', e = .returned (.agg #[.int .i64 s.view, .int .i64 s.normal, .int .i64 s.commit, .int .i64 s.active, .slice A' n c']) ∧ Sl EntryK (fun k => S k ∨ New w k) w' A' n c' s.log ∧ Below w.heap.size w w' := by
  have HSM := Lib.hid hsm
  clear hsm
  go_enter Try.func11, Try.ntmps11
  go_wp2
  have hnew := new2 w (.cells #[.int .i64 s.view, .int .i64 s.normal, .int .i64 s.commit, .int .i64 s.active, .slice A n cap] 24) (.cells #[.int .i64 0, .int .i64 0, .int .i64 0, .int .i64 0, .slice none 0 0] 35)
  obtain ⟨p0, p1, p2, p3, p4, pf⟩ := state_box hnew.1
  obtain ⟨z0, z1, z2, z3, z4, zf⟩ := state_box hnew.2
  go_region_held3 (fun w' : World => w'.cell? ⟨w.heap.size, 0, none⟩ = some (.int .i64 s.view) ∧ w'.cell? ⟨w.heap.size, 1, none⟩ = some (.int .i64 s.normal) ∧ w'.cell? ⟨w.heap.size, 2, none⟩ = some (.int .i64 s.commit) ∧ w'.cell? ⟨w.heap.size, 3, none⟩ = some (.int .i64 s.active) ∧ w'.cell? ⟨w.heap.size, 4, none⟩ = some (.slice A n cap))
    (first | with_reducible exact ⟨q0, q1, q2, q3, q4⟩ | with_reducible exact ⟨p0, p1, p2, p3, p4⟩ | go_keep)
    (first | (go_at_call 39; refine (entries_any _ (h.bound.below (below2 _ _ _).drew) hn HSM.out).mono ?_; rintro e w1 ⟨A', c', rfl, hs1, hb1⟩; have hb2 : Below w.heap.size w w1 := (below2 w _ _).drew.trans (hb1.mono (by simp; omega)); obtain ⟨q0, q1, q2, q3, q4, qf⟩ := state_box ((hb1.block w.heap.size (by simp; omega)).trans hnew.1); obtain ⟨y0, y1, y2, y3, y4, yf⟩ := state_box ((hb1.block (w.heap.size + 1) (by simp)).trans hnew.2)))
  go_wp2
  refine bodyPost_ret (v := .agg #[.int .i64 s.view, .int .i64 s.normal, .int .i64 s.commit, .int .i64 s.active, .slice A' n c']) (by simp [results, Try.results11, go_sem, *]) rfl ⟨A', c', rfl, ?_, ?_⟩
  · refine hs1.keep fun q hq _ => ?_
    have hq' : q ≠ w.heap.size + 1 := by
      rcases hq with ⟨_, hq⟩ | hq
      · omega
      · simp at hq; omega
    refine ⟨?_, hq.elim (fun h => .inl h.1) (fun h => .inr (by simp at h; simp only [New]; omega))⟩
    iterate 5 rw [Below.heap_setCell _ _ _ _ hq']
  · iterate 5 refine Below.setCell ?_ (Nat.le_add_right _ 1) _
    exact hb2
set_option maxHeartbeats 400000 in
/-- colandermade.Record -/
theorem madeRecord_any {S : Nat → Prop} (s : RecordD) (w : World) (A : Option Addr) (n cap : Nat) (h : Sl EntryK S w A n cap s.log) (hn : n ≤ 70) (hsm : ∀ x ∈ s.log, SmallE x) :
    Calls Try.prog 24 #[.agg #[.int .i64 s.kind, .int .i64 s.a, .int .i64 s.b, .slice A n cap]] w fun e w' =>
      ∃ A' c', e = .returned (.agg #[.int .i64 s.kind, .int .i64 s.a, .int .i64 s.b, .slice A' n c']) ∧ Sl EntryK (fun k => S k ∨ New w k) w' A' n c' s.log ∧ Below w.heap.size w w' := by
  have HSM := Lib.hid hsm
  clear hsm
  go_enter Try.func24, Try.ntmps24
  go_wp2
  have hnew := new2 w (.cells #[.int .i64 s.kind, .int .i64 s.a, .int .i64 s.b, .slice A n cap] 57) (.cells #[.int .i64 0, .int .i64 0, .int .i64 0, .slice none 0 0] 62)
  obtain ⟨p0, p1, p2, p3, pf⟩ := record_box hnew.1
  obtain ⟨z0, z1, z2, z3, zf⟩ := record_box hnew.2
  go_region_held3 (fun w' : World => w'.cell? ⟨w.heap.size, 0, none⟩ = some (.int .i64 s.kind) ∧ w'.cell? ⟨w.heap.size, 1, none⟩ = some (.int .i64 s.a) ∧ w'.cell? ⟨w.heap.size, 2, none⟩ = some (.int .i64 s.b) ∧ w'.cell? ⟨w.heap.size, 3, none⟩ = some (.slice A n cap))
    (first | with_reducible exact ⟨q0, q1, q2, q3⟩ | with_reducible exact ⟨p0, p1, p2, p3⟩ | go_keep)
    (first | (go_at_call 39; refine (entries_any _ (h.bound.below (below2 _ _ _).drew) hn HSM.out).mono ?_; rintro e w1 ⟨A', c', rfl, hs1, hb1⟩; have hb2 : Below w.heap.size w w1 := (below2 w _ _).drew.trans (hb1.mono (by simp; omega)); obtain ⟨q0, q1, q2, q3, qf⟩ := record_box ((hb1.block w.heap.size (by simp; omega)).trans hnew.1); obtain ⟨y0, y1, y2, y3, yf⟩ := record_box ((hb1.block (w.heap.size + 1) (by simp)).trans hnew.2)))
  go_wp2
  refine bodyPost_ret (v := .agg #[.int .i64 s.kind, .int .i64 s.a, .int .i64 s.b, .slice A' n c']) (by simp [results, Try.results24, go_sem, *]) rfl ⟨A', c', rfl, ?_, ?_⟩
  · refine hs1.keep fun q hq _ => ?_
    have hq' : q ≠ w.heap.size + 1 := by
      rcases hq with ⟨_, hq⟩ | hq
      · omega
      · simp at hq; omega
    refine ⟨?_, hq.elim (fun h => .inl h.1) (fun h => .inr (by simp at h; simp only [New]; omega))⟩
    iterate 4 rw [Below.heap_setCell _ _ _ _ hq']
  · iterate 4 refine Below.setCell ?_ (Nat.le_add_right _ 1) _
    exact hb2
end Go.Proofs.Ytlgdiloddphgnaa
