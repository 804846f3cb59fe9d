import Derived.Test.YtlgdiloddphgnaaW2
namespace Go.Proofs.Ytlgdiloddphgnaa
open Go.RowKit

theorem entryRight_parts (x : EntryD) {n7 n8 : Nat} (h7 : x.delta.put.length = n7) (h8 : x.delta.drop.length = n8) : entryRight x = (num x.view 0 && num x.client 1 && num x.request 1 && num x.delta.dflt (-1) && num x.delta.closed (-1) && num x.delta.fuel (-1) && num x.delta.stack (-1) && decide ((n7 : Int) ≤ 16) && decide ((n8 : Int) ≤ 16) && !(x.delta.put.any fun r => !ruleRight r) && !(x.delta.drop.any fun i => !num i 1)) := by
  subst h7 h8
  unfold entryRight entryNums
  rw [List.not_any_eq_all_not, List.not_any_eq_all_not, show decide (((x.delta.put.length : Nat) : Int) ≤ 16) = decide (x.delta.put.length ≤ 16) from decide_eq_decide.2 (by omega), show decide (((x.delta.drop.length : Nat) : Int) ≤ 16) = decide (x.delta.drop.length ≤ 16) from decide_eq_decide.2 (by omega)]
  simp

set_option maxHeartbeats 1000000 in
/-- pack.Entry.Right -/
theorem entryRight_any {S : Nat → Prop} (x : EntryD) (w : World) (A7 : Option Addr) (n7 c7 : Nat) (A8 : Option Addr) (n8 c8 : Nat) (h7 : Sl RuleK S w A7 n7 c7 x.delta.put) (h8 : Sl Kn.int S w A8 n8 c8 x.delta.drop) :
    Calls Try.prog 51 #[.agg #[.int .i64 x.view, .int .i64 x.client, .int .i64 x.request, .int .i64 x.delta.dflt, .int .i64 x.delta.closed, .int .i64 x.delta.fuel, .int .i64 x.delta.stack, .slice A7 n7 c7, .slice A8 n8 c8]] w fun e w' => e = .returned (.bool (entryRight x)) ∧ Below w.heap.size w w' := by
  have hl7 := Lib.hid h7.hl
  have hl8 := Lib.hid h8.hl
  have hm7 := h7.le
  have hm8 := h8.le
  obtain ⟨R, hR⟩ : ∃ R, R = entryRight x := ⟨_, rfl⟩
  rw [← hR]
  have HR := Lib.hid hR
  clear hR
  go_enter Try.func51, Try.ntmps51
  go_wp2_with (first | (go_at_call 81; refine (number_any _ _ _).mono ?_; rintro e w' ⟨rfl, rfl⟩) | (go_at_call 84; refine (containsFunc_rule 85 _ _ Try.call85 ruleWrong_any (h7.below (below2 _ _ _))).mono ?_; rintro e w1 ⟨rfl, hb1⟩; have hb2 := bt (below2 w _ _) hb1; have h8' := h8.below hb2; obtain ⟨hk1, hk2⟩ := bcell hb1) | (go_at_call 87; refine (containsFunc_int 88 _ _ Try.call88 idWrong_any h8').mono ?_; rintro e w2 ⟨rfl, hb3⟩; have hb4 := bt hb2 hb3))
  all_goals
    go_ret
    exact ⟨ret_bool (by rw [HR.out, entryRight_parts x hl7.out hl8.out]; simp [*] <;> omega), by first | exact hb4 | exact hb2 | exact below2 _ _ _⟩
end Go.Proofs.Ytlgdiloddphgnaa
