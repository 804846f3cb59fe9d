import Derived.Test.YtlgdiloddphgnaaW14
namespace Go.Proofs.Ytlgdiloddphgnaa
open Go.RowKit

theorem stateNums_split (s : StateD) {n : Nat} (h : s.log.length = n) : stateNums s = decide (0 ≤ s.view ∧ s.view ≤ 1099511627776 ∧ 0 ≤ s.normal ∧ s.normal ≤ s.view ∧ (n : Int) ≤ 64 ∧ 0 ≤ s.commit ∧ s.commit ≤ (n : Int) ∧ 0 ≤ s.active ∧ s.active ≤ 64) := by
  rw [stateNums, h]

set_option maxHeartbeats 2000000 in
/-- colanderref13.State.Right -/
theorem stateRight_ref {S : Nat → Prop} (s : StateD) (A : Option Addr) (n cap : Nat) (w : World) (h : Sl EntryK S w A n cap s.log) :
    Calls Try.prog 23 #[.agg #[.int .i64 s.view, .int .i64 s.normal, .int .i64 s.commit, .int .i64 s.active, .slice A n cap]] w fun e w' => e = .returned (.bool (stateRight s)) ∧ Below w.heap.size w w' := by
  obtain ⟨R, HR⟩ := veil (stateRight s)
  have hn := h.le
  have hl := Lib.hid h.hl
  rw [← HR.out]
  by_cases hA : 0 ≤ s.view ∧ s.view ≤ 1099511627776 ∧ 0 ≤ s.normal ∧ s.normal ≤ s.view ∧ (n : Int) ≤ 64 ∧ 0 ≤ s.commit ∧ s.commit ≤ (n : Int) ∧ 0 ≤ s.active ∧ s.active ≤ 64
  rotate_left 1
  · have HF : Hid (R = false) := by
      show R = false
      rw [HR.out, stateRight, stateNums_split s hl.out, decide_eq_false hA, Bool.false_and]
    have HA := Lib.hid hA
    clear hA
    go_enter Try.func23, Try.ntmps23
    go_wp2
    all_goals first
      | (go_ret; exact ⟨ret_bool HF.out.symm, below1 _ _⟩)
      | (refine (HA.out ?_).elim; simp_all; try omega)
  · have hT : Hid (stateNums s = true) := by
      show stateNums s = true
      rw [stateNums_split s hl.out, decide_eq_true hA]
    obtain ⟨a1, a2, a3, a4, a5, a6, a7, a8, a9⟩ := hA
    go_enter Try.func23, Try.ntmps23
    go_wp2
    go_loopw [3] (fun i wr => ∃ k : Nat, k ≤ n ∧ i = .int .i64 k ∧ Below w.heap.size w wr ∧ wr.cell? ⟨w.heap.size, 4, none⟩ = some (.slice A n cap) ∧ NoneTill (fun r => !entryRight r) s.log k) (fun i _ => n - (intOf i).toNat)
    case atStart => exact ⟨0, Nat.zero_le _, rfl, below1 _ _, by go_simp, NoneTill.zero _ _⟩
    case round =>
      obtain ⟨k, hk, rfl, hb, hcell, hnone⟩ := hrel
      have HN := Lib.hid hnone
      clear hnone
      by_cases hlt : k < n
      · obtain ⟨x, b, off, A7, n7, c7, A8, n8, c8, hx, rfl, hS, hlb, f0, f1, f2, f3, f4, f5, f6, f7, f8, hs7, hs8⟩ := EntryK.at_ (h.below hb) k hlt
        have HX := Lib.hid hx
        clear hx
        cases hp : entryRight x
        all_goals
          have HP := Lib.hid hp
          have hg := entryRight_ref x wr A7 n7 c7 A8 n8 c8 hs7 hs8
          rw [hp] at hg
          clear hp
          go_wp2_with (go_at_call 52; refine hg.mono ?_; rintro e w1 ⟨rfl, hb1⟩)
        · go_ret
          exact ⟨ret_bool (by rw [HR.out, stateRight, all_at HX.out HP.out, Bool.and_false]), bt hb hb1⟩
        · go_roundw
          case rel => exact ⟨k + 1, by omega, by go_num, bt hb hb1, cellb hb1 hcell, HN.out.succ HX.out (by rw [HP.out]; rfl)⟩
          case measure => simp [intOf]; omega
      · have e : k = s.log.length := by have := hl.out; omega
        have HE := Lib.hid e
        clear e
        go_wp2
        go_ret
        have hall : s.log.all entryRight = true := by
          have := HN.out
          rw [HE.out] at this
          exact this.all_not
        exact ⟨ret_bool (by rw [HR.out, stateRight, hT.out, hall]; rfl), hb⟩

theorem recordNums_false {r : RecordD} (h : ¬ (1 ≤ r.kind ∧ r.kind ≤ 5 ∧ num r.a 0 = true ∧ num r.b 0 = true)) : recordRight r = false := by
  rw [recordRight, Bool.eq_false_iff]
  intro h1
  simp only [recordNums, Bool.and_eq_true, decide_eq_true_eq] at h1
  exact h ⟨h1.1.1.1.1, h1.1.1.1.2, h1.1.1.2, h1.1.2⟩
theorem recordNums_true {r : RecordD} (h : 1 ≤ r.kind ∧ r.kind ≤ 5 ∧ num r.a 0 = true ∧ num r.b 0 = true) : recordRight r = (if r.kind = 2 then logged r.log 1 1 else decide ((r.log.length : Int) = 0)) := by
  rw [recordRight]
  have : recordNums r = true := by simp [recordNums, h]
  rw [this, Bool.true_and]

set_option maxHeartbeats 2000000 in
/-- pack.Record.Right -/
theorem recordRight_any {S : Nat → Prop} (r : RecordD) (A : Option Addr) (n cap : Nat) (w : World) (h : Sl EntryK S w A n cap r.log) :
    Calls Try.prog 48 #[.agg #[.int .i64 r.kind, .int .i64 r.a, .int .i64 r.b, .slice A n cap]] w fun e w' => e = .returned (.bool (recordRight r)) ∧ Below w.heap.size w w' := by
  obtain ⟨R, HR⟩ := veil (recordRight r)
  have hn := h.le
  have hl := Lib.hid h.hl
  rw [← HR.out]
  by_cases hA : 1 ≤ r.kind ∧ r.kind ≤ 5 ∧ num r.a 0 = true ∧ num r.b 0 = true
  rotate_left 1
  · have HF : Hid (R = false) := by
      show R = false
      rw [HR.out, recordNums_false hA]
    have HA := Lib.hid hA
    clear hA
    go_enter Try.func48, Try.ntmps48
    go_wp2_with (first | (go_at_call 81; refine (number_any _ _ _).mono ?_; rintro e w' ⟨rfl, rfl⟩) | (go_at_call 82; refine (HA.out ?_).elim; simp_all))
    all_goals first
      | (go_ret; exact ⟨ret_bool HF.out.symm, below1 _ _⟩)
      | (refine (HA.out ?_).elim; simp_all; try omega)
  · have hT : Hid (R = (if r.kind = 2 then logged r.log 1 1 else decide ((n : Int) = 0))) := by
      show R = _
      rw [HR.out, recordNums_true hA, hl.out]
    obtain ⟨a1, a2, a3, a4⟩ := hA
    by_cases hk2 : r.kind = 2
    · have hk2' : (r.kind == 2) = true := by simpa using hk2
      rw [if_pos hk2] at hT
      clear hk2
      go_enter Try.func48, Try.ntmps48
      go_wp2_with (first | (go_at_call 81; refine (number_any _ _ _).mono ?_; rintro e w' ⟨rfl, rfl⟩) | (go_at_call 82; refine (logged_any 1 1 _ (h.below (below1 _ _))).mono ?_; rintro e w1 ⟨rfl, hb1⟩))
      go_ret
      exact ⟨ret_bool hT.out.symm, bt (below1 _ _) hb1⟩
    · have hk2' : (r.kind == 2) = false := by simpa using hk2
      rw [if_neg hk2] at hT
      clear hk2
      go_enter Try.func48, Try.ntmps48
      go_wp2_with (go_at_call 81; refine (number_any _ _ _).mono ?_; rintro e w' ⟨rfl, rfl⟩)
      go_ret
      exact ⟨ret_bool (by rw [hT.out, Bool.eq_iff_iff]; simp), below1 _ _⟩

set_option maxHeartbeats 2000000 in
/-- colanderref11.Record.Right -/
theorem recordRight_ref {S : Nat → Prop} (r : RecordD) (A : Option Addr) (n cap : Nat) (w : World) (h : Sl EntryK S w A n cap r.log) :
    Calls Try.prog 25 #[.agg #[.int .i64 r.kind, .int .i64 r.a, .int .i64 r.b, .slice A n cap]] w fun e w' => e = .returned (.bool (recordRight r)) ∧ Below w.heap.size w w' := by
  obtain ⟨R, HR⟩ := veil (recordRight r)
  have hn := h.le
  have hl := Lib.hid h.hl
  rw [← HR.out]
  have hw15 : withinB r.kind 1 5 = (decide (1 ≤ r.kind) && decide (r.kind ≤ 5)) := rfl
  by_cases hA : 1 ≤ r.kind ∧ r.kind ≤ 5 ∧ num r.a 0 = true ∧ num r.b 0 = true
  rotate_left 1
  · have HF : Hid (R = false) := by
      show R = false
      rw [HR.out, recordNums_false hA]
    have HA := Lib.hid hA
    clear hA
    go_enter Try.func25, Try.ntmps25
    go_wp2_with (first | (go_at_call 53; refine (within_any _ _ _ _).mono ?_; rintro e w' ⟨rfl, rfl⟩; try rw [within_num]) | (go_at_call 54; refine (HA.out ?_).elim; simp_all))
    all_goals first
      | (go_ret; exact ⟨ret_bool HF.out.symm, below1 _ _⟩)
      | (refine (HA.out ?_).elim; simp_all; try omega)
  · have hT : Hid (R = (if r.kind = 2 then logged r.log 1 1 else decide ((n : Int) = 0))) := by
      show R = _
      rw [HR.out, recordNums_true hA, hl.out]
    obtain ⟨a1, a2, a3, a4⟩ := hA
    have hw : withinB r.kind 1 5 = true := by rw [hw15]; simp [a1, a2]
    clear hw15
    by_cases hk2 : r.kind = 2
    · have hk2' : (r.kind == 2) = true := by simpa using hk2
      rw [if_pos hk2] at hT
      clear hk2
      by_cases hn1 : n = 1
      · have hn1' : ((n : Int) == 1) = true := by subst hn1; rfl
        have hT2 : Hid (R = (decide ((n : Int) ≤ 1) && r.log.all entryRight)) := by
          show R = _
          rw [hT.out, logged, hl.out, hn1]
          rfl
        clear hn1
        go_enter Try.func25, Try.ntmps25
        go_wp2_with (first | (go_at_call 53; refine (within_any _ _ _ _).mono ?_; rintro e w' ⟨rfl, rfl⟩; try rw [within_num]) | (go_at_call 54; refine (entries_ref 1 _ (h.below (below1 _ _))).mono ?_; rintro e w1 ⟨rfl, hb1⟩))
        all_goals
          go_ret
          exact ⟨ret_bool (by rw [hT2.out]; try simp_all), bt (below1 _ _) hb1⟩
      · have hn1' : ((n : Int) == 1) = false := by simp; omega
        have hT2 : Hid (R = false) := by
          show R = _
          rw [hT.out, logged, hl.out]
          have : decide ((1 : Int) ≤ (n : Int)) = false ∨ decide ((n : Int) ≤ 1) = false := by
            rcases Nat.lt_or_ge n 1 with h | h
            · exact .inl (decide_eq_false (by omega))
            · exact .inr (decide_eq_false (by omega))
          rcases this with h | h <;> rw [h] <;> simp
        clear hn1
        go_enter Try.func25, Try.ntmps25
        go_wp2_with (go_at_call 53; refine (within_any _ _ _ _).mono ?_; rintro e w' ⟨rfl, rfl⟩; try rw [within_num])
        go_ret
        exact ⟨ret_bool hT2.out.symm, below1 _ _⟩
    · have hk2' : (r.kind == 2) = false := by simpa using hk2
      rw [if_neg hk2] at hT
      clear hk2
      go_enter Try.func25, Try.ntmps25
      go_wp2_with (go_at_call 53; refine (within_any _ _ _ _).mono ?_; rintro e w' ⟨rfl, rfl⟩; try rw [within_num])
      go_ret
      exact ⟨ret_bool (by rw [hT.out, Bool.eq_iff_iff]; simp), below1 _ _⟩
end Go.Proofs.Ytlgdiloddphgnaa
