import Derived.Test.YtlgdiloddphgnaaW18
set_option linter.unusedSimpArgs false
set_option linter.unusedVariables false
namespace Go.Proofs.Ytlgdiloddphgnaa
open Go.RowKit

def zeroS : StateD := ⟨0, 0, 0, 0, []⟩
/-- ledger.Apply, as plain Lean. -/
def applyAll (s : StateD) (r : RecordD) : StateD × Int :=
  if stateRight s = true ∧ recordRight r = true then (match applyS s r with | some s' => (s', 0) | none => (zeroS, 54)) else (zeroS, 10)
/-- What a call of Apply ends in. -/
def StateEnds (S : World → Nat → Prop) (w : World) (o : StateD × Int) (e : Ending) (w' : World) : Prop :=
  ∃ A' n' c', e = .returned (.tuple #[.agg #[.int .i64 o.1.view, .int .i64 o.1.normal, .int .i64 o.1.commit, .int .i64 o.1.active, .slice A' n' c'], .int .i64 o.2]) ∧ Sl EntryK (S w) w' A' n' c' o.1.log ∧ Below w.heap.size w w'

theorem stateRight_small {s : StateD} {n : Nat} (hl : s.log.length = n) (h : stateRight s = true) : n ≤ 64 ∧ ∀ x ∈ s.log, SmallE x := by
  rw [stateRight, Bool.and_eq_true, stateNums_split s hl, decide_eq_true_eq] at h
  exact ⟨by omega, small_of_all h.2⟩

set_option maxHeartbeats 2000000 in
/-- ledger.Apply -/
theorem Apply_any {S S3 : Nat → Prop} {w : World} {A : Option Addr} {n cap : Nat} (s : StateD) (r : RecordD) (A3 : Option Addr) (n3 c3 : Nat)
    (h : Sl EntryK S w A n cap s.log) (h3 : Sl EntryK S3 w A3 n3 c3 r.log) :
    Calls Try.prog 21 #[.agg #[.int .i64 s.view, .int .i64 s.normal, .int .i64 s.commit, .int .i64 s.active, .slice A n cap], .agg #[.int .i64 r.kind, .int .i64 r.a, .int .i64 r.b, .slice A3 n3 c3]] w
      (StateEnds New w (applyAll s r)) := by
  have hnew := new3 w (.cells #[.int .i64 s.view, .int .i64 s.normal, .int .i64 s.commit, .int .i64 s.active, .slice A n cap] 24) (.cells #[.int .i64 r.kind, .int .i64 r.a, .int .i64 r.b, .slice A3 n3 c3] 57) (.cells #[.int .i64 0, .int .i64 0, .int .i64 0, .int .i64 0, .slice none 0 0] 24)
  cases hr1 : stateRight s
  · have e0 : applyAll s r = (zeroS, 10) := by rw [applyAll, if_neg (fun hh => by simp [hr1] at hh)]
    rw [e0]
    have hg := fun (W : World) (hW : Below w.heap.size w W) => stateRight_any s A n cap W (h.below hW)
    rw [hr1] at hg
    clear e0 hr1
    go_enter Try.func21, Try.ntmps21
    go_wp2_with (go_at_call 22; refine (hg _ (below3 _ _ _ _)).mono ?_; rintro e w1 ⟨rfl, hb1⟩; obtain ⟨x0, x1, x2, x3, x4, xf⟩ := state_box ((hb1.block (w.heap.size + 2) (by simp)).trans hnew.2.2))
    refine bodyPost_ret (v := .tuple #[.agg #[.int .i64 0, .int .i64 0, .int .i64 0, .int .i64 0, .slice none 0 0], .int .i64 10]) (by simp [results, Try.results21, go_sem, *]) rfl ⟨none, 0, 0, rfl, Sl.nil _ _ _ _ _ (by omega), ?_⟩
    iterate 5 refine Below.setCell ?_ (by simp only []; omega) _
    exact bt (below3 _ _ _ _) hb1
  cases hr2 : recordRight r
  · have e0 : applyAll s r = (zeroS, 10) := by rw [applyAll, if_neg (fun hh => by simp [hr2] at hh)]
    rw [e0]
    have hg := fun (W : World) (hW : Below w.heap.size w W) => stateRight_any s A n cap W (h.below hW)
    have hg2 := fun (W : World) (hW : Below w.heap.size w W) => recordRight_any r A3 n3 c3 W (h3.below hW)
    rw [hr1] at hg
    rw [hr2] at hg2
    clear e0 hr1 hr2
    go_enter Try.func21, Try.ntmps21
    go_wp2_with (first | (go_at_call 22; refine (hg _ (below3 _ _ _ _)).mono ?_; rintro e w1 ⟨rfl, hb1⟩; have hbb := bt (below3 w _ _ _) hb1; obtain ⟨t0, t1, t2, t3, tf⟩ := record_box ((hb1.block (w.heap.size + 1) (by simp <;> omega)).trans hnew.2.1)) | (go_at_call 48; refine (hg2 _ hbb).mono ?_; rintro e w2 ⟨rfl, hb2⟩; have hb3 := bt hbb hb2; obtain ⟨x0, x1, x2, x3, x4, xf⟩ := state_box ((hb2.block (w.heap.size + 2) (by have := hb1.size; simp at this; omega)).trans ((hb1.block (w.heap.size + 2) (by simp)).trans hnew.2.2))))
    refine bodyPost_ret (v := .tuple #[.agg #[.int .i64 0, .int .i64 0, .int .i64 0, .int .i64 0, .slice none 0 0], .int .i64 10]) (by simp [results, Try.results21, go_sem, *]) rfl ⟨none, 0, 0, rfl, Sl.nil _ _ _ _ _ (by omega), ?_⟩
    iterate 5 refine Below.setCell ?_ (by simp only []; omega) _
    exact hb3
  obtain ⟨hn64, hsm⟩ := stateRight_small h.hl hr1
  have e1 : applyAll s r = (match applyS s r with | some s' => (s', 0) | none => (zeroS, 54)) := by rw [applyAll, if_pos ⟨hr1, hr2⟩]
  have hg := fun (W : World) (hW : Below w.heap.size w W) => stateRight_any s A n cap W (h.below hW)
  have hg2 := fun (W : World) (hW : Below w.heap.size w W) => recordRight_any r A3 n3 c3 W (h3.below hW)
  have hg3 := fun (W : World) (hW : Below w.heap.size w W) => copied_any W (h.below hW) (by omega) hsm
  have hg4 := fun (W : World) (b off : Nat) (e : TypeId) (cs : Array Value) (A' : Option Addr) (n' c' : Nat) (S' : Nat → Prop) (hW : Below w.heap.size w W) (ha : StateAt S' W b off e cs A' n' c' s) (hS : ∀ k, S' k → k ≠ b) => apply_any r A3 n3 c3 ha hS (h3.below hW) hr2
  rw [hr1] at hg
  rw [hr2] at hg2
  cases ha : applyS s r with
  | none =>
    rw [ha] at e1 hg4
    rw [e1]
    clear e1 hr1 hr2 ha hsm
    dsimp only [ApplyEnds] at hg4 ⊢
    go_enter Try.func21, Try.ntmps21
    go_wp2_with (first | (go_at_call 22; refine (hg _ (below3 _ _ _ _)).mono ?_; rintro e w1 ⟨rfl, hb1⟩; have hbb := bt (below3 w _ _ _) hb1; obtain ⟨t0, t1, t2, t3, tf⟩ := record_box ((hb1.block (w.heap.size + 1) (by simp <;> omega)).trans hnew.2.1)) | (go_at_call 48; refine (hg2 _ hbb).mono ?_; rintro e w2 ⟨rfl, hb2⟩; have hb3 := bt hbb hb2; have hs1 := hb1.size; have hs2 := hb2.size; have hh2 := (hb2.block w.heap.size (by simp at hs1; omega)).trans ((hb1.block w.heap.size (by simp <;> omega)).trans hnew.1); obtain ⟨x0, x1, x2, x3, x4, xf⟩ := state_box hh2) | (go_at_call 42; refine (hg3 _ hb3).mono ?_; rintro e w3 ⟨A', c', rfl, hsl, hb4⟩; have hs3 := hb4.size; have hh3 := (hb4.block w.heap.size (by simp at hs1; omega)).trans hh2; obtain ⟨y0, y1, y2, y3, y4, yf⟩ := state_box hh3; have ht3 := (hb4.block (w.heap.size + 1) (by simp at hs1; omega)).trans ((hb2.block (w.heap.size + 1) (by simp at hs1; omega)).trans ((hb1.block (w.heap.size + 1) (by simp)).trans hnew.2.1)); obtain ⟨v0, v1, v2, v3, vf⟩ := record_box ht3; have hr3 := (hb4.block (w.heap.size + 2) (by simp at hs1; omega)).trans ((hb2.block (w.heap.size + 2) (by simp at hs1; omega)).trans ((hb1.block (w.heap.size + 2) (by simp)).trans hnew.2.2)); have hW2 : Below w.heap.size w (w3.setCell ⟨w.heap.size, 4, none⟩ (.slice A' n c')) := (bt hb3 hb4).setCell (p := ⟨w.heap.size, 4, none⟩) (Nat.le_refl _) _) | (go_at_call 37; refine (hg4 _ w.heap.size 0 _ _ A' n c' (New w2) hW2 ⟨setCell_box hh3 _, rfl, rfl, rfl, rfl, rfl, hsl.keep (fun k hk hlt => ⟨Below.heap_setCell _ _ _ _ (by simp only [New] at hk; simp at hs1; simp only []; omega), hk⟩)⟩ (fun k hk => by simp only [New] at hk; simp at hs1; omega)).mono ?_; rintro e w4 ⟨rfl, POST⟩; have hb5 := bt hW2 POST; have hr4 := (POST.block (w.heap.size + 2) (by simp [World.setCell]; simp at hs1; omega)).trans ((Below.heap_setCell _ _ _ _ (by simp)).trans hr3); obtain ⟨u0, u1, u2, u3, u4, uf⟩ := state_box hr4))
    refine bodyPost_ret (v := .tuple #[.agg #[.int .i64 0, .int .i64 0, .int .i64 0, .int .i64 0, .slice none 0 0], .int .i64 54]) (by simp [results, Try.results21, go_sem, *]) rfl ⟨none, 0, 0, rfl, Sl.nil _ _ _ _ _ (by omega), ?_⟩
    iterate 5 refine Below.setCell ?_ (by simp only []; omega) _
    exact hb5
  | some s' =>
    rw [ha] at e1 hg4
    rw [e1]
    clear e1 hr1 hr2 ha hsm
    dsimp only [ApplyEnds] at hg4 ⊢
    go_enter Try.func21, Try.ntmps21
    go_wp2_with (first | (go_at_call 22; refine (hg _ (below3 _ _ _ _)).mono ?_; rintro e w1 ⟨rfl, hb1⟩; have hbb := bt (below3 w _ _ _) hb1; obtain ⟨t0, t1, t2, t3, tf⟩ := record_box ((hb1.block (w.heap.size + 1) (by simp <;> omega)).trans hnew.2.1)) | (go_at_call 48; refine (hg2 _ hbb).mono ?_; rintro e w2 ⟨rfl, hb2⟩; have hb3 := bt hbb hb2; have hs1 := hb1.size; have hs2 := hb2.size; have hh2 := (hb2.block w.heap.size (by simp at hs1; omega)).trans ((hb1.block w.heap.size (by simp <;> omega)).trans hnew.1); obtain ⟨x0, x1, x2, x3, x4, xf⟩ := state_box hh2) | (go_at_call 42; refine (hg3 _ hb3).mono ?_; rintro e w3 ⟨A', c', rfl, hsl, hb4⟩; have hs3 := hb4.size; have hh3 := (hb4.block w.heap.size (by simp at hs1; omega)).trans hh2; obtain ⟨y0, y1, y2, y3, y4, yf⟩ := state_box hh3; have ht3 := (hb4.block (w.heap.size + 1) (by simp at hs1; omega)).trans ((hb2.block (w.heap.size + 1) (by simp at hs1; omega)).trans ((hb1.block (w.heap.size + 1) (by simp)).trans hnew.2.1)); obtain ⟨v0, v1, v2, v3, vf⟩ := record_box ht3; have hr3 := (hb4.block (w.heap.size + 2) (by simp at hs1; omega)).trans ((hb2.block (w.heap.size + 2) (by simp at hs1; omega)).trans ((hb1.block (w.heap.size + 2) (by simp)).trans hnew.2.2)); have hW2 : Below w.heap.size w (w3.setCell ⟨w.heap.size, 4, none⟩ (.slice A' n c')) := (bt hb3 hb4).setCell (p := ⟨w.heap.size, 4, none⟩) (Nat.le_refl _) _) | (go_at_call 37; refine (hg4 _ w.heap.size 0 _ _ A' n c' (New w2) hW2 ⟨setCell_box hh3 _, rfl, rfl, rfl, rfl, rfl, hsl.keep (fun k hk hlt => ⟨Below.heap_setCell _ _ _ _ (by simp only [New] at hk; simp at hs1; simp only []; omega), hk⟩)⟩ (fun k hk => by simp only [New] at hk; simp at hs1; omega)).mono ?_; rintro e w4 ⟨rfl, POST⟩; obtain ⟨cs5, A5, n5, c5, hst, _, hT⟩ := POST; have hb5 : Below w.heap.size w w4 := (⟨hT.os.trans hW2.os, hT.tape.trans hW2.tape, hT.output.trans hW2.output, Nat.le_trans hW2.size hT.size, fun k hk => (hT.block k (Nat.lt_of_lt_of_le hk hW2.size) (by omega)).trans (hW2.block k hk)⟩); have hr4 := (hT.block (w.heap.size + 2) (by simp [World.setCell]; simp at hs1; omega) (by omega)).trans ((Below.heap_setCell _ _ _ _ (by simp)).trans hr3); obtain ⟨q0, q1, q2, q3, q4, qf, _⟩ := hst.cells; simp only [Nat.zero_add] at q1 q2 q3 q4; obtain ⟨u0, u1, u2, u3, u4, uf⟩ := state_box hr4))
    refine bodyPost_ret (v := .tuple #[.agg #[.int .i64 s'.view, .int .i64 s'.normal, .int .i64 s'.commit, .int .i64 s'.active, .slice A5 n5 c5], .int .i64 0]) (by simp [results, Try.results21, go_sem, *]) rfl ⟨A5, n5, c5, rfl, hst.log.keep fun k hk _ => ?_, ?_⟩
    · have hk' : w.heap.size + 3 ≤ k := by
        simp only [New, World.setCell, Array.size_modify] at hk
        simp at hs1
        omega
      refine ⟨?_, by simp only [New]; omega⟩
      iterate 5 rw [Below.heap_setCell _ _ _ _ (by simp only []; omega)]
    · iterate 5 refine Below.setCell ?_ (by simp only []; omega) _
      exact hb5
end Go.Proofs.Ytlgdiloddphgnaa
