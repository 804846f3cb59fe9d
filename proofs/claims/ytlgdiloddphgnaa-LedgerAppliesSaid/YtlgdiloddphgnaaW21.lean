import Derived.Test.YtlgdiloddphgnaaW20
set_option linter.unusedSimpArgs false
set_option linter.unusedVariables false
namespace Go.Proofs.Ytlgdiloddphgnaa
open Go.RowKit

def refApplied (s : StateD) (r : RecordD) : StateD × Int := match applyS s r with | some s' => (s', 0) | none => (zeroS, 54)
/-- colanderref13.Apply, of a right record -/
theorem refApply_any {S S3 : Nat → Prop} {w : World} {A : Option Addr} {n cap : Nat} (s : StateD) (r : RecordD) (A3 : Option Addr) (n3 c3 : Nat)
    (h : Sl EntryK S w A n cap s.log) (hn : n ≤ 64) (h3 : Sl EntryK S3 w A3 n3 c3 r.log) (hr : recordRight r = true) :
    Calls Try.prog 26 #[.agg #[.int .i64 s.view, .int .i64 s.normal, .int .i64 s.commit, .int .i64 s.active, .slice A n cap], .agg #[.int .i64 r.kind, .int .i64 r.a, .int .i64 r.b, .slice A3 n3 c3]] w
      (RefEnds (fun k => (S k ∨ S3 k) ∨ New w k) w (refApplied s r)) := by
  have hl := h.hl
  have hn0 : 1 ≤ r.kind ∧ r.kind ≤ 5 ∧ 0 ≤ r.a := by
    rw [recordRight, recordNums] at hr
    simp only [Bool.and_eq_true, decide_eq_true_eq, num] at hr
    exact ⟨hr.1.1.1.1, hr.1.1.1.2, hr.1.1.2.1⟩
  by_cases k1 : r.kind = 1
  · by_cases x1 : s.view ≤ r.a
    · by_cases x2 : s.normal ≤ r.b
      · by_cases x3 : r.b ≤ r.a
        · rw [refApplied, applyS, if_pos k1, if_pos ⟨x1, x2, x3⟩]
          exact refApply_1 s r A3 n3 c3 h hn k1 x1 x2 x3
        · rw [refApplied, applyS, if_pos k1, if_neg (fun hh => x3 hh.2.2)]
          exact refApply_f1c s r A3 n3 c3 h hn k1 x1 x2 (by omega)
      · rw [refApplied, applyS, if_pos k1, if_neg (fun hh => x2 hh.2.1)]
        exact refApply_f1b s r A3 n3 c3 h hn k1 x1 (by omega)
    · rw [refApplied, applyS, if_pos k1, if_neg (fun hh => x1 hh.1)]
      exact refApply_f1a s r A3 n3 c3 h hn k1 (by omega)
  by_cases k2 : r.kind = 2
  · have hlg : logged r.log 1 1 = true := by
      rw [recordRight, if_pos k2, Bool.and_eq_true] at hr
      exact hr.2
    simp only [logged, Bool.and_eq_true, decide_eq_true_eq] at hlg
    have hl3 := h3.hl
    by_cases x1 : n < 64
    · rw [refApplied, applyS, if_neg k1, if_pos k2, if_pos (by omega)]
      exact refApply_2 s r A3 n3 c3 h hn h3 (by omega) k2 x1
    · rw [refApplied, applyS, if_neg k1, if_pos k2, if_neg (by omega)]
      exact refApply_f2 s r A3 n3 c3 h hn k2 (by omega)
  by_cases k3 : r.kind = 3
  · by_cases x1 : s.commit ≤ r.a
    · by_cases x2 : r.a ≤ (s.log.length : Int)
      · rw [refApplied, applyS, if_neg k1, if_neg k2, if_pos k3, if_pos ⟨x1, x2⟩]
        exact refApply_3 s r A3 n3 c3 h hn k3 r.a.toNat (by omega) (by omega) (by omega)
      · rw [refApplied, applyS, if_neg k1, if_neg k2, if_pos k3, if_neg (fun hh => x2 hh.2)]
        exact refApply_f3b s r A3 n3 c3 h hn k3 x1 (by omega)
    · rw [refApplied, applyS, if_neg k1, if_neg k2, if_pos k3, if_neg (fun hh => x1 hh.1)]
      exact refApply_f3a s r A3 n3 c3 h hn k3 (by omega)
  by_cases k4 : r.kind = 4
  · by_cases x1 : s.commit ≤ r.a
    · by_cases x2 : r.a ≤ (s.log.length : Int)
      · rw [refApplied, applyS, if_neg k1, if_neg k2, if_neg k3, if_pos k4, if_pos ⟨x1, x2⟩]
        exact refApply_4 s r A3 n3 c3 h hn k4 x1 (by omega)
      · rw [refApplied, applyS, if_neg k1, if_neg k2, if_neg k3, if_pos k4, if_neg (fun hh => x2 hh.2)]
        exact refApply_f4b s r A3 n3 c3 h hn k4 x1 (by omega)
    · rw [refApplied, applyS, if_neg k1, if_neg k2, if_neg k3, if_pos k4, if_neg (fun hh => x1 hh.1)]
      exact refApply_f4a s r A3 n3 c3 h hn k4 (by omega)
  have k5 : r.kind = 5 := by omega
  by_cases x1 : r.a ≤ 64
  · rw [refApplied, applyS, if_neg k1, if_neg k2, if_neg k3, if_neg k4, if_pos k5, if_pos x1]
    exact refApply_5 s r A3 n3 c3 h hn k5 x1
  · rw [refApplied, applyS, if_neg k1, if_neg k2, if_neg k3, if_neg k4, if_pos k5, if_neg x1]
    exact refApply_f5 s r A3 n3 c3 h hn k5 (by omega)

theorem StateD.ext' {x y : StateD} (h0 : x.view = y.view) (h1 : x.normal = y.normal) (h2 : x.commit = y.commit) (h3 : x.active = y.active) (h4 : x.log = y.log) : x = y := by
  cases x
  cases y
  simp_all
theorem state_eq (x y : StateD) : eqB x y = (decide (x.view = y.view) && decide (x.normal = y.normal) && decide (x.commit = y.commit) && decide (x.active = y.active) && eqB x.log y.log) := by
  rw [Bool.eq_iff_iff]
  simp only [Bool.and_eq_true, decide_eq_true_eq, eqB_iff]
  constructor
  · rintro rfl
    simp
  · rintro ⟨⟨⟨⟨h0, h1⟩, h2⟩, h3⟩, h4⟩
    exact StateD.ext' h0 h1 h2 h3 h4

set_option maxHeartbeats 1000000 in
/-- colanderref13.Same -/
theorem stateSame_ref {S S2 : Nat → Prop} {w : World} {A B : Option Addr} {n cap m cap2 : Nat} (x y : StateD) (h : Sl EntryK S w A n cap x.log) (h2 : Sl EntryK S2 w B m cap2 y.log) :
    Calls Try.prog 43 #[.agg #[.int .i64 x.view, .int .i64 x.normal, .int .i64 x.commit, .int .i64 x.active, .slice A n cap], .agg #[.int .i64 y.view, .int .i64 y.normal, .int .i64 y.commit, .int .i64 y.active, .slice B m cap2]] w
      fun e w' => e = .returned (.bool (eqB x y)) ∧ Below w.heap.size w w' := by
  obtain ⟨R, HR⟩ := veil (eqB x y)
  rw [← HR.out]
  go_enter Try.func43, Try.ntmps43
  go_wp2_with (go_at_call 76; refine (same_ref _ (h.below (below2 _ _ _)) (h2.below (below2 _ _ _))).mono ?_; rintro e w1 ⟨rfl, hb1⟩)
  all_goals
    go_ret
    refine ⟨ret_bool (by rw [HR.out, state_eq]; simp_all), by first | exact bt (below2 _ _ _) hb1 | exact below2 _ _ _⟩

set_option maxHeartbeats 1000000 in
/-- colanderlaw13.same -/
theorem lawSame_any {S S2 : Nat → Prop} {w : World} {A B : Option Addr} {n cap m cap2 : Nat} (x y : StateD) (h : Sl EntryK S w A n cap x.log) (h2 : Sl EntryK S2 w B m cap2 y.log) (hn : n ≤ 70) (hsm : ∀ x' ∈ x.log, SmallE x') :
    Calls Try.prog 14 #[.agg #[.int .i64 x.view, .int .i64 x.normal, .int .i64 x.commit, .int .i64 x.active, .slice A n cap], .agg #[.int .i64 y.view, .int .i64 y.normal, .int .i64 y.commit, .int .i64 y.active, .slice B m cap2]] w
      fun e w' => e = .returned (.bool (eqB x y)) ∧ Below w.heap.size w w' := by
  have HSM := Lib.hid hsm
  clear hsm
  have hnew := new2 w (.cells #[.int .i64 x.view, .int .i64 x.normal, .int .i64 x.commit, .int .i64 x.active, .slice A n cap] 24) (.cells #[.int .i64 y.view, .int .i64 y.normal, .int .i64 y.commit, .int .i64 y.active, .slice B m cap2] 35)
  obtain ⟨p0, p1, p2, p3, p4, pf⟩ := state_box hnew.1
  obtain ⟨z0, z1, z2, z3, z4, zf⟩ := state_box hnew.2
  go_enter Try.func14, Try.ntmps14
  go_wp2
  go_region_held3 (fun w' : World => w'.cell? ⟨w.heap.size + 1, 0, none⟩ = some (.int .i64 y.view) ∧ w'.cell? ⟨w.heap.size + 1, 1, none⟩ = some (.int .i64 y.normal) ∧ w'.cell? ⟨w.heap.size + 1, 2, none⟩ = some (.int .i64 y.commit) ∧ w'.cell? ⟨w.heap.size + 1, 3, none⟩ = some (.int .i64 y.active) ∧ w'.cell? ⟨w.heap.size + 1, 4, none⟩ = some (.slice B m cap2) ∧ w'.cell? ⟨w.heap.size, 0, none⟩ = some (.int .i64 x.view) ∧ w'.cell? ⟨w.heap.size, 1, none⟩ = some (.int .i64 x.normal) ∧ w'.cell? ⟨w.heap.size, 2, none⟩ = some (.int .i64 x.commit) ∧ w'.cell? ⟨w.heap.size, 3, none⟩ = some (.int .i64 x.active) ∧ w'.cell? ⟨w.heap.size, 4, none⟩ = some (.slice A n cap))
    (first | with_reducible exact ⟨cellb hb3 q0, cellb hb3 q1, cellb hb3 q2, cellb hb3 q3, cellb hb3 q4, cellb hb3 r0, cellb hb3 r1, cellb hb3 r2, cellb hb3 r3, cellb hb3 r4⟩ | with_reducible exact ⟨q0, q1, q2, q3, q4, r0, r1, r2, r3, r4⟩ | with_reducible exact ⟨z0, z1, z2, z3, z4, p0, p1, p2, p3, p4⟩ | go_keep)
    (first | (go_at_call 11; refine (madeState_any x _ A n cap (h.below (below2 _ _ _).drew) hn HSM.out).mono ?_; rintro e w1 ⟨A', c', rfl, hs1, hb1⟩; have hb2 : Below w.heap.size w w1 := (below2 w _ _).drew.trans (hb1.mono (by simp <;> omega)); obtain ⟨q0, q1, q2, q3, q4, qf⟩ := state_box ((hb1.block (w.heap.size + 1) (by simp <;> omega)).trans hnew.2); obtain ⟨r0, r1, r2, r3, r4, rf⟩ := state_box ((hb1.block w.heap.size (by simp <;> omega)).trans hnew.1)) | (go_at_call 43; refine (stateSame_ref x y hs1 (h2.below hb2)).mono ?_; rintro e w2 ⟨rfl, hb3⟩))
  go_wp2
  go_ret
  exact ⟨rfl, bt hb2 hb3⟩
end Go.Proofs.Ytlgdiloddphgnaa
