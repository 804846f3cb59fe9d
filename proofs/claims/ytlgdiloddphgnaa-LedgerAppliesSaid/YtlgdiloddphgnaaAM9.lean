/- The value machine: regions, code and calls: what it computes, the model does. -/
import Derived.Test.YtlgdiloddphgnaaAM8
set_option linter.unusedSimpArgs false
set_option linter.unusedVariables false
namespace Go.Proofs.Ytlgdiloddphgnaa
open Go.RowKit
namespace AM
variable {P : Program} {call : Callee} {ops : Array Oper}

/-! ### All orders -/
theorem edges_lt (h : edgesOK ops = true) {i : Nat} {o : Oper} (ho : ops[i]? = some o) {e : Edge} (he : e ∈ o.after) (hb : Region.binds .any e = true) : e.on < i := by
  unfold edgesOK at h
  rw [List.all_eq_true] at h
  have h1 := h i (List.mem_range.2 (Array.getElem?_eq_some_iff.1 ho).1)
  rw [ho] at h1
  simp only [Option.all_some] at h1
  have h2 := Array.all_eq_true_iff_forall_mem.1 h1 e he
  simpa [hb] using h2
theorem waits_lt (h : edgesOK ops = true) {j : Nat} : ∀ (n i : Nat), i < n → waits (ancs ops.toList []) i j = true → j < i
  | 0, i, hi, _ => by omega
  | n + 1, i, hi, hw => by
    obtain ⟨o, ho, e, he, hb, h1⟩ := waits_spec hw
    have h2 := edges_lt h ho he hb
    rcases h1 with h1 | ⟨h1, h3⟩
    · omega
    · have := waits_lt h n e.on (by omega) h3
      omega
theorem waits_listed (h : edgesOK ops = true) {listed : Array Bool} (down : ∀ i o, ops[i]? = some o → listed.getD i true = true → ∀ e ∈ o.after, Region.binds .any e = true → listed.getD e.on false = true) (hsz : listed.size = ops.size) {j : Nat} :
    ∀ (n i : Nat) (o : Oper), i < n → ops[i]? = some o → (∀ e ∈ o.after, Region.binds .any e = true → listed.getD e.on false = true) → waits (ancs ops.toList []) i j = true → listed.getD j false = true
  | 0, i, _, hi, _, _, _ => by omega
  | n + 1, i, o, hi, ho, hd, hw => by
    obtain ⟨o', ho', e, he, hb, h1⟩ := waits_spec hw
    rw [ho] at ho'
    cases ho'
    have hl := hd e he hb
    rcases h1 with h1 | ⟨h1, h3⟩
    · rw [← h1]
      exact hl
    · have hlt : e.on < ops.size := by
        rcases Nat.lt_or_ge e.on listed.size with h4 | h4
        · omega
        · simp [Array.getD, Nat.not_lt.2 h4] at hl
      have hoe : ops[e.on]? = some ops[e.on] := Array.getElem?_eq_getElem hlt
      refine waits_listed h down hsz n e.on _ (by omega) hoe (down e.on _ hoe ?_) h3
      have : e.on < listed.size := by omega
      simp [Array.getD, this] at hl ⊢
      exact hl
theorem mem_ready' {listed : Array Bool} {i : Nat} : i ∈ Region.ready .any ops listed ↔ i < ops.size ∧ listed.getD i true = false ∧ ∃ o, ops[i]? = some o ∧ ∀ e ∈ o.after, Region.binds .any e = true → listed.getD e.on false = true := by
  unfold Region.ready
  rw [List.mem_filter, List.mem_range]
  constructor
  · rintro ⟨h1, h2⟩
    simp only [Bool.and_eq_true, Bool.not_eq_true'] at h2
    refine ⟨h1, h2.1, ?_⟩
    have ho : ops[i]? = some ops[i] := Array.getElem?_eq_getElem h1
    rw [ho] at h2
    simp only [Option.map_some, Option.getD_some] at h2
    refine ⟨_, ho, fun e he hb => ?_⟩
    have := Array.all_eq_true_iff_forall_mem.1 h2.2 e he
    simpa [hb] using this
  · rintro ⟨h1, h2, o, ho, h3⟩
    refine ⟨h1, ?_⟩
    rw [ho]
    simp only [h2, Option.map_some, Option.getD_some, Bool.not_false, Bool.true_and]
    rw [Array.all_eq_true_iff_forall_mem]
    intro e he
    by_cases hb : Region.binds .any e = true
    · simp [hb, h3 e he hb]
    · simp [hb]
theorem drawOK_pair (h : drawOK ops = true) {i j : Nat} (hi : i < ops.size) (hj : j < i) (hw : waits (ancs ops.toList []) i j = false) : ∃ x y, ops[j]? = some x ∧ ops[i]? = some y ∧ pairOK ops x y = true := by
  unfold drawOK at h
  simp only [Bool.and_eq_true] at h
  have h1 := List.all_eq_true.1 h.2 i (List.mem_range.2 hi)
  have h2 := List.all_eq_true.1 h1 j (List.mem_range.2 hj)
  rw [hw, Bool.false_or] at h2
  have hj' : ops[j]? = some (ops[j]'(by omega)) := Array.getElem?_eq_getElem (by omega)
  have hi' : ops[i]? = some ops[i] := Array.getElem?_eq_getElem hi
  rw [hj', hi'] at h2
  exact ⟨_, _, hj', hi', h2⟩

/-- What has not come up, in the text's order. -/
def leftOf (n : Nat) (listed : Array Bool) : List Nat := (List.range n).filter fun i => !listed.getD i true
theorem left_split {n i : Nat} {listed : Array Bool} (hsz : listed.size = n) (hi : i ∈ leftOf n listed) : ∃ l1 l2, leftOf n listed = l1 ++ i :: l2 ∧ (∀ j ∈ l1, j < i ∧ j < n ∧ listed.getD j true = false) ∧ leftOf n (listed.setIfInBounds i true) = l1 ++ l2 := by
  obtain ⟨h1, h2⟩ := List.mem_filter.1 hi
  rw [List.mem_range] at h1
  have e : List.range n = List.range i ++ i :: List.range' (i + 1) (n - i - 1) := by
    rw [List.range_eq_range', List.range_eq_range', show n = i + (1 + (n - i - 1)) by omega, ← List.range'_append_1]
    simp only [Nat.zero_add]
    congr 1
    rw [show i + (1 + (n - i - 1)) - i - 1 = n - i - 1 by omega, Nat.add_comm 1, List.range'_succ]
  refine ⟨(List.range i).filter fun i => !listed.getD i true, (List.range' (i + 1) (n - i - 1)).filter fun i => !listed.getD i true, ?_, fun j hj => ?_, ?_⟩
  · unfold leftOf
    rw [e, List.filter_append, List.filter_cons, if_pos h2]
  · obtain ⟨a, b⟩ := List.mem_filter.1 hj
    rw [List.mem_range] at a
    exact ⟨a, by omega, by simpa using b⟩
  · unfold leftOf
    rw [e, List.filter_append, List.filter_cons]
    have hi2 : (listed.setIfInBounds i true).getD i true = true := by
      have : i < listed.size := by omega
      simp [Array.getD, this]
    rw [hi2]
    simp only [Bool.not_true, Bool.false_eq_true, if_false]
    have same : ∀ j, j ≠ i → (listed.setIfInBounds i true).getD j true = listed.getD j true := fun j hj => by
      by_cases hjl : j < listed.size
      · have : ¬ i = j := fun e => hj e.symm
        simp [Array.getD, hjl, this]
      · simp [Array.getD, hjl]
    congr 1
    · apply List.filter_congr
      intro j hj
      rw [List.mem_range] at hj
      rw [same j (by omega)]
    · apply List.filter_congr
      intro j hj
      rw [List.mem_range'_1] at hj
      rw [same j (by omega)]
theorem aall_of_run (hOK : drawOK ops = true) {s0 : St} {O : List Nat} {af : Fr} {sf : St} : ∀ (fuel : Nat) (listed : Array Bool) (a : Fr) (s : St), listed.size = ops.size →
    (∀ i o, ops[i]? = some o → listed.getD i true = true → ∀ e ∈ o.after, Region.binds .any e = true → listed.getD e.on false = true) → (leftOf ops.size listed).length ≤ fuel → (∀ k ∈ O, s.get k = s0.get k) →
    RunS P call ops (ancs ops.toList []) (fun s' => ∀ k ∈ O, s'.get k = s0.get k) O af sf (leftOf ops.size listed) a s → AAll P call ops af sf fuel listed a s := by
  have hE : edgesOK ops = true := by
    unfold drawOK at hOK
    simp only [Bool.and_eq_true] at hOK
    exact hOK.1
  intro fuel
  induction fuel with
  | zero =>
    intro listed a s hsz down hl hS hr
    have e : leftOf ops.size listed = [] := List.eq_nil_of_length_eq_zero (by omega)
    rw [e] at hr
    refine ⟨?_, hr⟩
    rw [List.eq_nil_iff_forall_not_mem]
    intro i hi
    obtain ⟨h1, h2, _⟩ := mem_ready'.1 hi
    have : i ∈ leftOf ops.size listed := List.mem_filter.2 ⟨List.mem_range.2 h1, by simp [h2]⟩
    rw [e] at this
    cases this
  | succ fuel ih =>
    intro listed a s hsz down hl hS hr
    refine ⟨fun h0 => ?_, fun i hi => ?_⟩
    · cases hle : leftOf ops.size listed with
      | nil =>
        rw [hle] at hr
        exact hr
      | cons i l =>
        exfalso
        have hi : i ∈ leftOf ops.size listed := by rw [hle]; simp
        obtain ⟨l1, l2, e1, e2, _⟩ := left_split hsz hi
        obtain ⟨h1, h2⟩ := List.mem_filter.1 hi
        rw [List.mem_range] at h1
        have ho : ops[i]? = some ops[i] := Array.getElem?_eq_getElem h1
        have : i ∈ Region.ready .any ops listed := by
          refine mem_ready'.2 ⟨h1, by simpa using h2, _, ho, fun e he hb => ?_⟩
          have hlt := edges_lt hE ho he hb
          cases hg : listed.getD e.on true with
          | true =>
            have : e.on < listed.size := by omega
            simp [Array.getD, this] at hg ⊢
            exact hg
          | false =>
            exfalso
            -- it would stand ahead of i
            have hm : e.on ∈ leftOf ops.size listed := List.mem_filter.2 ⟨List.mem_range.2 (by omega), by simp [hg]⟩
            have hs : (leftOf ops.size listed).Pairwise (· < ·) := List.Pairwise.filter _ List.pairwise_lt_range
            rw [hle] at hm hs
            rcases List.mem_cons.1 hm with h3 | h3
            · omega
            · have := (List.pairwise_cons.1 hs).1 _ h3
              omega
        rw [h0] at this
        cases this
    · obtain ⟨h1, h2, o, ho, h3⟩ := mem_ready'.1 hi
      have hil : i ∈ leftOf ops.size listed := List.mem_filter.2 ⟨List.mem_range.2 h1, by simp [h2]⟩
      obtain ⟨l1, l2, e1, e2, e3⟩ := left_split hsz hil
      rw [e1] at hr
      have hf := front_run ho l1 a s hS (fun j hj => by
        obtain ⟨j1, j2, j3⟩ := e2 j hj
        have w1 : waits (ancs ops.toList []) i j = false := by
          cases hw : waits (ancs ops.toList []) i j with
          | false => rfl
          | true =>
            have := waits_listed hE down hsz (i + 1) i o (by omega) ho h3 hw
            have hjs : j < listed.size := by omega
            simp [Array.getD, hjs] at this j3
            rw [this] at j3
            cases j3
        have w2 : waits (ancs ops.toList []) j i = false := by
          cases hw : waits (ancs ops.toList []) j i with
          | false => rfl
          | true =>
            have := waits_lt hE (j + 1) j (by omega) hw
            omega
        obtain ⟨x, y, hx, hy, hp⟩ := drawOK_pair hOK h1 j1 w1
        rw [ho] at hy
        cases hy
        exact ⟨x, hx, hp, w1, w2, by omega⟩) hr
      obtain ⟨o', x, s1, ho', hst, hs1, _, hrest⟩ := hf
      rw [ho] at ho'
      cases ho'
      refine ⟨put a o.dst x, s1, by simp [stepI, ho, astep_eq, hst], ?_⟩
      refine ih _ _ _ (by simpa using hsz) ?_ ?_ hs1 (by rw [e3]; exact hrest)
      · intro k ok hk hlk e he hb
        have hle : listed.getD e.on false = true := by
          by_cases hki : k = i
          · subst hki
            rw [ho] at hk
            cases hk
            exact h3 e he hb
          · refine down k ok hk ?_ e he hb
            by_cases hks : k < listed.size
            · have : ¬ i = k := fun e => hki e.symm
              simpa [Array.getD, hks, this] using hlk
            · simp [Array.getD, hks]
        have hes : e.on < listed.size := by
          rcases Nat.lt_or_ge e.on listed.size with h4 | h4
          · exact h4
          · simp [Array.getD, Nat.not_lt.2 h4] at hle
        by_cases hei : i = e.on
        · rw [← hei]
          have : i < listed.size := by omega
          simp [Array.getD, this]
        · simpa [Array.getD, hes, hei] using hle
      · rw [e3]
        rw [e1] at hl
        simp at hl ⊢
        omega
theorem run_of_draw {b O : List Nat} {s0 : St} {af : Fr} {sf : St} : ∀ (l : List Nat) (a : Fr) (s : St), (∀ k ∈ O, s.get k = s0.get k) → adraw P call ops b O s0 l a s = some (af, sf) → RunS P call ops b (fun s' => ∀ k ∈ O, s'.get k = s0.get k) O af sf l a s
  | [], a, s, _, h => by
    simp only [adraw, Option.some.injEq, Prod.mk.injEq] at h
    exact h
  | i :: l, a, s, hS, h => by
    simp only [adraw] at h
    split at h
    · cases h
    · rename_i o ho
      split at h
      · rename_i a' s' hst
        rw [astep_eq] at hst
        cases hv : stepV P call ops o a s with
        | none => simp [hv] at hst
        | some r =>
          obtain ⟨x, s1⟩ := r
          simp [hv] at hst
          obtain ⟨rfl, rfl⟩ := hst
          split at h
          · rename_i hc
            simp only [Bool.and_eq_true, Bool.or_eq_true, Bool.not_eq_true', List.all_eq_true] at hc
            have hS1 : ∀ k ∈ O, s1.get k = s0.get k := by
              rcases hc.2 with he | he
              · rw [(still_step he hv).1]
                exact hS
              · intro k hk
                exact (beqO_eq (he k hk)).symm
            refine ⟨o, x, s1, ho, hv, hS1, fun hf k hk => ?_, run_of_draw l _ _ hS1 h⟩
            rcases hc.1 with h1 | h1
            · rw [hf] at h1
              cases h1
            · have := h1 k hk
              simpa using this
          · cases h
      · cases h
end AM
end Go.Proofs.Ytlgdiloddphgnaa
