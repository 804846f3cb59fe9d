import Derived.Test.YtlgdiloddphgnaaW4
namespace Go.Proofs.Ytlgdiloddphgnaa
open Go.RowKit

/-- A value that the walk doesn't look into. -/
theorem veil {α : Type} (x : α) : ∃ y, Hid (y = x) := ⟨x, Lib.hid rfl⟩

/-- ledger.State.Right's look at an entry -/
theorem entryWrong_any {S : Nat → Prop} (x : EntryD) (A7 : Option Addr) (n7 c7 : Nat) (A8 : Option Addr) (n8 c8 : Nat) (w : World) (h7 : Sl RuleK S w A7 n7 c7 x.delta.put) (h8 : Sl Kn.int S w A8 n8 c8 x.delta.drop) :
    Calls Try.prog 50 #[.agg #[.int .i64 x.view, .int .i64 x.client, .int .i64 x.request, .int .i64 x.delta.dflt, .int .i64 x.delta.closed, .int .i64 x.delta.fuel, .int .i64 x.delta.stack, .slice A7 n7 c7, .slice A8 n8 c8]] w fun e w' => e = .returned (.bool (!entryRight x)) ∧ Below w.heap.size w w' := by
  go_enter Try.func50, Try.ntmps50
  go_wp2_with (go_at_call 51; refine (entryRight_any x _ A7 n7 c7 A8 n8 c8 (h7.below (below1 _ _)) (h8.below (below1 _ _))).mono ?_; rintro e w' ⟨rfl, hb⟩)
  go_ret
  exact ⟨rfl, bt (below1 _ _) hb⟩
/-- pack.logged's look at an entry -/
theorem entryWrong_logged {S : Nat → Prop} (x : EntryD) (A7 : Option Addr) (n7 c7 : Nat) (A8 : Option Addr) (n8 c8 : Nat) (w : World) (h7 : Sl RuleK S w A7 n7 c7 x.delta.put) (h8 : Sl Kn.int S w A8 n8 c8 x.delta.drop) :
    Calls Try.prog 114 #[.agg #[.int .i64 x.view, .int .i64 x.client, .int .i64 x.request, .int .i64 x.delta.dflt, .int .i64 x.delta.closed, .int .i64 x.delta.fuel, .int .i64 x.delta.stack, .slice A7 n7 c7, .slice A8 n8 c8]] w fun e w' => e = .returned (.bool (!entryRight x)) ∧ Below w.heap.size w w' := by
  go_enter Try.func114, Try.ntmps114
  go_wp2_with (go_at_call 51; refine (entryRight_any x _ A7 n7 c7 A8 n8 c8 (h7.below (below1 _ _)) (h8.below (below1 _ _))).mono ?_; rintro e w' ⟨rfl, hb⟩)
  go_ret
  exact ⟨rfl, bt (below1 _ _) hb⟩

theorem any_not_all (l : List EntryD) : (!(l.any fun e => !entryRight e)) = l.all entryRight := by
  rw [List.not_any_eq_all_not]
  simp

set_option maxHeartbeats 400000 in
/-- pack.logged -/
theorem logged_any {S : Nat → Prop} {A : Option Addr} {n cap : Nat} {l : List EntryD} (least most : Int) (w : World) (h : Sl EntryK S w A n cap l) :
    Calls Try.prog 82 #[.slice A n cap, .int .i64 least, .int .i64 most] w fun e w' => e = .returned (.bool (logged l least most)) ∧ Below w.heap.size w w' := by
  obtain ⟨R, HR⟩ := veil (logged l least most)
  have hn := h.le
  have H0 : logged l least most = (decide (least ≤ (n : Int)) && decide ((n : Int) ≤ most) && !(l.any fun e => !entryRight e)) := by
    rw [any_not_all, logged, h.hl]
  have H := Lib.hid H0
  clear H0
  rw [← HR.out]
  go_enter Try.func82, Try.ntmps82
  go_wp2_with (go_at_call 49; refine (containsFunc_entry (S := S) 114 _ _ Try.call114 entryWrong_logged h).mono ?_; rintro e w1 ⟨rfl, hb1⟩)
  all_goals
    go_ret
    exact ⟨ret_bool (by rw [HR.out, H.out]; simp [*] <;> omega), by first | exact hb1 | exact Below.refl _ _⟩

set_option maxHeartbeats 1000000 in
/-- colanderref11.entries -/
theorem entries_ref {S : Nat → Prop} {A : Option Addr} {n cap : Nat} {l : List EntryD} (most : Int) (w : World) (h : Sl EntryK S w A n cap l) :
    Calls Try.prog 54 #[.slice A n cap, .int .i64 most] w fun e w' => e = .returned (.bool (decide ((n : Int) ≤ most) && l.all entryRight)) ∧ Below w.heap.size w w' := by
  have hn := h.le
  have hl := Lib.hid h.hl
  by_cases hm : most < (n : Int)
  · have hf : decide ((n : Int) ≤ most) = false := decide_eq_false (by omega)
    rw [hf, Bool.false_and]
    clear hf
    go_enter Try.func54, Try.ntmps54
    go_wp2
    go_ret
    exact ⟨rfl, Below.refl _ _⟩
  · have hf : decide ((n : Int) ≤ most) = true := decide_eq_true (by omega)
    rw [hf, Bool.true_and]
    clear hf
    obtain ⟨R, HR⟩ := veil (l.all entryRight)
    rw [← HR.out]
    go_enter Try.func54, Try.ntmps54
    go_wp2
    go_loopw [5] (fun i wr => ∃ k : Nat, k ≤ n ∧ i = .int .i64 k ∧ Below w.heap.size w wr ∧ NoneTill (fun r => !entryRight r) l k) (fun i _ => n - (intOf i).toNat)
    case atStart => exact ⟨0, Nat.zero_le _, rfl, Below.refl _ _, NoneTill.zero _ _⟩
    case round =>
      obtain ⟨k, hk, rfl, hb, hnone⟩ := hrel
      have HN := Lib.hid hnone
      clear hnone
      by_cases hlt : k < n
      · obtain ⟨x, b, off, A7, n7, c7, A8, n8, c8, hx, rfl, hS, hlb, f0, f1, f2, f3, f4, f5, f6, f7, f8, hs7, hs8⟩ := EntryK.at_ (h.below hb) k hlt
        have HX := Lib.hid hx
        clear hx
        cases hp : entryRight x
        all_goals
          have HP := Lib.hid hp
          have hg := entryRight_ref x wr A7 n7 c7 A8 n8 c8 hs7 hs8
          rw [hp] at hg
          clear hp
          go_wp2_with (go_at_call 52; refine hg.mono ?_; rintro e w1 ⟨rfl, hb1⟩)
        · go_ret
          exact ⟨ret_bool (by rw [HR.out, all_at HX.out HP.out]), bt hb hb1⟩
        · go_roundw
          case rel => exact ⟨k + 1, by omega, by go_num, bt hb hb1, HN.out.succ HX.out (by rw [HP.out]; rfl)⟩
          case measure => simp [intOf]; omega
      · go_wp2
        go_ret
        have e : k = l.length := by have := hl.out; omega
        subst e
        exact ⟨ret_bool (by rw [HR.out, HN.out.all_not]), hb⟩

set_option maxHeartbeats 2000000 in
/-- ledger.State.Right -/
theorem stateRight_any {S : Nat → Prop} (s : StateD) (A : Option Addr) (n cap : Nat) (w : World) (h : Sl EntryK S w A n cap s.log) :
    Calls Try.prog 22 #[.agg #[.int .i64 s.view, .int .i64 s.normal, .int .i64 s.commit, .int .i64 s.active, .slice A n cap]] w fun e w' => e = .returned (.bool (stateRight s)) ∧ Below w.heap.size w w' := by
  obtain ⟨R, HR⟩ := veil (stateRight s)
  have hn := h.le
  have H0 : stateRight s = (decide (0 ≤ s.view ∧ s.view ≤ 1099511627776 ∧ 0 ≤ s.normal ∧ s.normal ≤ s.view ∧ (n : Int) ≤ 64 ∧ 0 ≤ s.commit ∧ s.commit ≤ (n : Int) ∧ 0 ≤ s.active ∧ s.active ≤ 64) && !(s.log.any fun e => !entryRight e)) := by
    rw [any_not_all, stateRight, stateNums, h.hl]
  have H := Lib.hid H0
  clear H0
  rw [← HR.out]
  go_enter Try.func22, Try.ntmps22
  go_wp2_with (go_at_call 49; refine (containsFunc_entry (S := S) 50 _ _ Try.call50 entryWrong_any (h.below (below1 _ _))).mono ?_; rintro e w1 ⟨rfl, hb1⟩)
  all_goals
    go_ret
    refine ⟨ret_bool ?_, by first | exact bt (below1 _ _) hb1 | exact below1 _ _⟩
    rw [HR.out, H.out]
    first
      | (rw [decide_eq_false (by omega)]; rfl)
      | (rw [decide_eq_true (by omega)]; rfl)
end Go.Proofs.Ytlgdiloddphgnaa
