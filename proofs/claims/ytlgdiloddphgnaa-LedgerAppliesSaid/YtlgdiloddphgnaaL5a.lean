/- A right record leaves a right state right; small logs. Plain lemmas. -/
import Derived.Test.YtlgdiloddphgnaaW21
import Derived.Test.YtlgdiloddphgnaaW14
import Derived.Test.YtlgdiloddphgnaaW15
import Derived.Test.YtlgdiloddphgnaaW13
namespace Go.Proofs.Ytlgdiloddphgnaa
open Go.RowKit

theorem smallLog_facts {l : List EntryD} {n : Nat} (hl : l.length = n) (h : smallLog l = true) : n ≤ 70 ∧ ∀ x ∈ l, SmallE x := by
  rw [smallLog, Bool.and_eq_true, decide_eq_true_eq, List.all_eq_true] at h
  refine ⟨by omega, fun x hx => ?_⟩
  have h1 := h.1 x hx
  rw [smallE, Bool.and_eq_true, Bool.and_eq_true, decide_eq_true_eq, decide_eq_true_eq] at h1
  exact ⟨by omega, by omega⟩

theorem stateRight_iff (s : StateD) : stateRight s = true ↔ (0 ≤ s.view ∧ s.view ≤ 1099511627776 ∧ 0 ≤ s.normal ∧ s.normal ≤ s.view ∧ (s.log.length : Int) ≤ 64 ∧ 0 ≤ s.commit ∧ s.commit ≤ (s.log.length : Int) ∧ 0 ≤ s.active ∧ s.active ≤ 64) ∧ s.log.all entryRight = true := by
  rw [stateRight, Bool.and_eq_true, stateNums, decide_eq_true_eq]

theorem recordRight_iff {r : RecordD} (h : recordRight r = true) : 1 ≤ r.kind ∧ r.kind ≤ 5 ∧ 0 ≤ r.a ∧ r.a ≤ 1099511627776 ∧ 0 ≤ r.b ∧ r.b ≤ 1099511627776 ∧ (r.kind = 2 → r.log.length = 1 ∧ r.log.all entryRight = true) := by
  rw [recordRight, recordNums] at h
  simp only [Bool.and_eq_true, decide_eq_true_eq, num] at h
  refine ⟨h.1.1.1.1, h.1.1.1.2, h.1.1.2.1, h.1.1.2.2, h.1.2.1, h.1.2.2, fun hk => ?_⟩
  have h2 := h.2
  rw [if_pos hk, logged] at h2
  simp only [Bool.and_eq_true, decide_eq_true_eq] at h2
  exact ⟨by omega, h2.2⟩

theorem right_kept {s s' : StateD} {r : RecordD} (hs : stateRight s = true) (hr : recordRight r = true) (ha : applyS s r = some s') : stateRight s' = true := by
  rw [stateRight_iff] at hs
  obtain ⟨⟨h1, h2, h3, h4, h5, h6, h7, h8, h9⟩, hA⟩ := hs
  obtain ⟨k1, k5, a0, a1, b0, b1, hL⟩ := recordRight_iff hr
  rw [applyS] at ha
  rw [stateRight_iff]
  split at ha
  · split at ha
    · obtain rfl := Option.some.inj ha
      refine ⟨⟨?_, ?_, ?_, ?_, h5, h6, h7, h8, h9⟩, hA⟩ <;> dsimp only <;> omega
    · cases ha
  split at ha
  · rename_i hk
    obtain ⟨l1, l2⟩ := hL hk
    split at ha
    · obtain rfl := Option.some.inj ha
      refine ⟨⟨h1, h2, h3, h4, ?_, h6, ?_, h8, h9⟩, ?_⟩
      · dsimp only; rw [List.length_append]; omega
      · dsimp only; rw [List.length_append]; omega
      · dsimp only; rw [List.all_append, hA, l2]; rfl
    · cases ha
  split at ha
  · split at ha
    · obtain rfl := Option.some.inj ha
      refine ⟨⟨h1, h2, h3, h4, ?_, h6, ?_, h8, h9⟩, ?_⟩
      · dsimp only; rw [List.length_take]; omega
      · dsimp only; rw [List.length_take]; omega
      · dsimp only
        rw [List.all_eq_true] at hA ⊢
        exact fun x hx => hA x (List.mem_of_mem_take hx)
    · cases ha
  split at ha
  · split at ha
    · obtain rfl := Option.some.inj ha
      refine ⟨⟨h1, h2, h3, h4, h5, ?_, ?_, h8, h9⟩, hA⟩ <;> dsimp only <;> omega
    · cases ha
  split at ha
  · split at ha
    · obtain rfl := Option.some.inj ha
      refine ⟨⟨h1, h2, h3, h4, h5, h6, h7, ?_, ?_⟩, hA⟩ <;> dsimp only <;> omega
    · cases ha
  · cases ha

/-- What the law asks of Apply's answer. -/
structure AppliedOk (s : StateD) (r : RecordD) (o : StateD × Int) : Prop where
  same : refApplied s r = o
  right : o.2 ≠ 0 ∨ stateRight o.1 = true
  len : o.1.log.length ≤ 70
  small : ∀ x ∈ o.1.log, SmallE x
theorem appliedOk {s : StateD} {r : RecordD} (hs : stateRight s = true) (hr : recordRight r = true) : AppliedOk s r (applyAll s r) := by
  have e1 : applyAll s r = refApplied s r := by
    rw [applyAll, if_pos ⟨hs, hr⟩, refApplied]
    cases applyS s r <;> rfl
  rw [e1]
  cases ha : applyS s r with
  | none =>
    have e2 : refApplied s r = (zeroS, 54) := by rw [refApplied, ha]
    rw [e2]
    exact ⟨e2, .inl (by decide), Nat.zero_le _, fun x hx => by cases hx⟩
  | some s' =>
    have e2 : refApplied s r = (s', 0) := by rw [refApplied, ha]
    rw [e2]
    exact ⟨e2, .inr (right_kept hs hr ha), Nat.le_trans (stateRight_small rfl (right_kept hs hr ha)).1 (by decide), (stateRight_small rfl (right_kept hs hr ha)).2⟩
end Go.Proofs.Ytlgdiloddphgnaa
