import Derived.Test.YtlgdiloddphgnaaW6
namespace Go.Proofs.Ytlgdiloddphgnaa
open Go.RowKit

theorem EntryD.ext' {x y : EntryD} (h0 : x.view = y.view) (h1 : x.client = y.client) (h2 : x.request = y.request) (h3 : x.delta.dflt = y.delta.dflt) (h4 : x.delta.closed = y.delta.closed) (h5 : x.delta.fuel = y.delta.fuel) (h6 : x.delta.stack = y.delta.stack) (h7 : x.delta.put = y.delta.put) (h8 : x.delta.drop = y.delta.drop) : x = y := by
  obtain ⟨_, _, _, _, _, _, _, _, _⟩ := x
  obtain ⟨_, _, _, _, _, _, _, _, _⟩ := y
  simp_all
theorem entry_eq (x y : EntryD) : eqB x y = (decide (x.view = y.view) && decide (x.client = y.client) && decide (x.request = y.request) && decide (x.delta.dflt = y.delta.dflt) && decide (x.delta.closed = y.delta.closed) && decide (x.delta.fuel = y.delta.fuel) && decide (x.delta.stack = y.delta.stack) && eqB x.delta.put y.delta.put && eqB x.delta.drop y.delta.drop) := by
  rw [Bool.eq_iff_iff]
  simp only [Bool.and_eq_true, decide_eq_true_eq, eqB_iff]
  constructor
  · rintro rfl
    simp
  · rintro ⟨⟨⟨⟨⟨⟨⟨⟨h0, h1⟩, h2⟩, h3⟩, h4⟩, h5⟩, h6⟩, h7⟩, h8⟩
    exact EntryD.ext' h0 h1 h2 h3 h4 h5 h6 h7 h8

set_option maxHeartbeats 4000000 in
/-- pack.same -/
theorem same_any {S S2 : Nat → Prop} (x y : EntryD) (w : World) (A7 : Option Addr) (n7 c7 : Nat) (A8 : Option Addr) (n8 c8 : Nat) (B7 : Option Addr) (m7 d7 : Nat) (B8 : Option Addr) (m8 d8 : Nat)
    (h7 : Sl RuleK S w A7 n7 c7 x.delta.put) (h8 : Sl Kn.int S w A8 n8 c8 x.delta.drop) (k7 : Sl RuleK S2 w B7 m7 d7 y.delta.put) (k8 : Sl Kn.int S2 w B8 m8 d8 y.delta.drop) :
    Calls Try.prog 65 #[.agg #[.int .i64 x.view, .int .i64 x.client, .int .i64 x.request, .int .i64 x.delta.dflt, .int .i64 x.delta.closed, .int .i64 x.delta.fuel, .int .i64 x.delta.stack, .slice A7 n7 c7, .slice A8 n8 c8],
      .agg #[.int .i64 y.view, .int .i64 y.client, .int .i64 y.request, .int .i64 y.delta.dflt, .int .i64 y.delta.closed, .int .i64 y.delta.fuel, .int .i64 y.delta.stack, .slice B7 m7 d7, .slice B8 m8 d8]] w fun e w' => e = .returned (.bool (eqB x y)) ∧ Below w.heap.size w w' := by
  obtain ⟨R, HR⟩ := veil (eqB x y)
  rw [← HR.out]
  go_enter Try.func65, Try.ntmps65
  go_wp2
  go_region
  all_goals
    go_wp2_with (first | (go_at_call 106; refine (equal_rule _ (h7.below (by repeat first | exact Below.refl _ _ | refine Below.drew ?_ | refine Below.alloc ?_ (by simp <;> omega) _)) (k7.below (by repeat first | exact Below.refl _ _ | refine Below.drew ?_ | refine Below.alloc ?_ (by simp <;> omega) _))).mono ?_; rintro e w1 ⟨rfl, hb1⟩; have hb2 : Below w.heap.size w w1 := bt (by repeat first | exact Below.refl _ _ | refine Below.drew ?_ | refine Below.alloc ?_ (by simp <;> omega) _) hb1; obtain ⟨hk1, hk2⟩ := bcell hb1; have h8' := h8.below hb2; have k8' := k8.below hb2; clear hb1) | (go_at_call 107; refine (equal_int _ h8' k8').mono ?_; rintro e w2 ⟨rfl, hb3⟩; have hb4 := bt hb2 hb3))
    all_goals
      go_ret
      refine ⟨ret_bool (by rw [HR.out, entry_eq]; simp_all), by first | exact hb4 | exact hb2 | exact (by repeat first | exact Below.refl _ _ | refine Below.drew ?_ | refine Below.alloc ?_ (by simp <;> omega) _)⟩
end Go.Proofs.Ytlgdiloddphgnaa
