import Derived.Test.YtlgdiloddphgnaaSpec
import Derived.Test.YtlgdiloddphgnaaRows
namespace Go.Proofs.Ytlgdiloddphgnaa
open Go.RowKit

/-- pack.number -/
theorem number_any (n l : Int) (w : World) :
    Calls Try.prog 81 #[.int .i64 n, .int .i64 l] w fun e w' => e = .returned (.bool (num n l)) ∧ w = w' := by
  go_enter Try.func81, Try.ntmps81
  go_wp2
  all_goals
    go_ret
    exact ⟨ret_bool (by simp [num]; try omega), rfl⟩

/-- colanderref11.within -/
theorem within_any (n l h : Int) (w : World) :
    Calls Try.prog 53 #[.int .i64 n, .int .i64 l, .int .i64 h] w fun e w' => e = .returned (.bool (withinB n l h)) ∧ w = w' := by
  go_enter Try.func53, Try.ntmps53
  go_wp2
  all_goals
    go_ret
    exact ⟨ret_bool (by simp [withinB]; try omega), rfl⟩

set_option maxHeartbeats 400000 in
/-- rule.Rule.Right -/
theorem ruleRight_any (r : RuleD) (w : World) :
    Calls Try.prog 86 #[.agg #[.int .i64 r.id, .int .i64 r.pri, .int .i64 r.act, .int .i64 r.sco, .string r.pat]] w fun e w' => e = .returned (.bool (ruleRight r)) ∧ Below w.heap.size w w' := by
  go_enter Try.func86, Try.ntmps86
  go_wp2
  all_goals
    go_ret
    refine ⟨ret_iff (by simp only [ruleRight, decide_eq_true_eq, Bool.false_eq_true, false_iff]; omega), ?_⟩
    exact (Below.refl _ _).alloc (Nat.le_refl _) _

set_option maxHeartbeats 400000 in
/-- colanderref07.Rule.Right -/
theorem ruleRight_ref (r : RuleD) (w : World) :
    Calls Try.prog 89 #[.agg #[.int .i64 r.id, .int .i64 r.pri, .int .i64 r.act, .int .i64 r.sco, .string r.pat]] w fun e w' => e = .returned (.bool (ruleRight r)) ∧ Below w.heap.size w w' := by
  go_enter Try.func89, Try.ntmps89
  go_wp2
  all_goals
    go_ret
    refine ⟨ret_iff (by simp only [ruleRight, decide_eq_true_eq, Bool.false_eq_true, false_iff]; omega), ?_⟩
    exact (Below.refl _ _).alloc (Nat.le_refl _) _

/-- pack.Entry.Right's look at a rule -/
theorem ruleWrong_any (r : RuleD) (w : World) :
    Calls Try.prog 85 #[.agg #[.int .i64 r.id, .int .i64 r.pri, .int .i64 r.act, .int .i64 r.sco, .string r.pat]] w fun e w' => e = .returned (.bool (!ruleRight r)) ∧ Below w.heap.size w w' := by
  go_enter Try.func85, Try.ntmps85
  go_wp2_with (go_at_call 86; refine (ruleRight_any r _).mono ?_; rintro e w' ⟨rfl, hb⟩)
  go_ret
  exact ⟨rfl, ((Below.refl _ _).alloc (Nat.le_refl _) _).trans (hb.mono (by simp))⟩
/-- pack.Entry.Right's look at an ID -/
theorem idWrong_any (n : Int) (w : World) :
    Calls Try.prog 88 #[.int .i64 n] w fun e w' => e = .returned (.bool (!num n 1)) ∧ Below w.heap.size w w' := by
  go_enter Try.func88, Try.ntmps88
  go_wp2_with (go_at_call 81; refine (number_any _ _ _).mono ?_; rintro e w' ⟨rfl, rfl⟩)
  go_ret
  exact ⟨rfl, Below.refl _ _⟩
end Go.Proofs.Ytlgdiloddphgnaa
