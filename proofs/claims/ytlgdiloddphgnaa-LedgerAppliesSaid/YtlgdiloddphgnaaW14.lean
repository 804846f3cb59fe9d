import Derived.Test.YtlgdiloddphgnaaW13
import Derived.Test.YtlgdiloddphgnaaW10
namespace Go.Proofs.Ytlgdiloddphgnaa
open Go.RowKit

set_option maxHeartbeats 1000000 in
/-- colandermade.SmallLog -/
theorem smallLog_any {S : Nat → Prop} {A : Option Addr} {n cap : Nat} {l : List EntryD} (w : World) (h : Sl EntryK S w A n cap l) :
    Calls Try.prog 20 #[.slice A n cap] w fun e w' => e = .returned (.bool (smallLog l)) ∧ Below w.heap.size w w' := by
  have hl := Lib.hid h.hl
  have hn := h.le
  obtain ⟨R, HR⟩ := veil (smallLog l)
  rw [← HR.out]
  go_enter Try.func20, Try.ntmps20
  go_wp2
  go_loopw [9] (fun i wr => ∃ k : Nat, k ≤ n ∧ i = .int .i64 k ∧ Below w.heap.size w wr ∧ NoneTill (fun r => !smallE r) l k) (fun i _ => n - (intOf i).toNat)
  case atStart => exact ⟨0, Nat.zero_le _, rfl, Below.refl _ _, NoneTill.zero _ _⟩
  case round =>
    obtain ⟨k, hk, rfl, hb, hnone⟩ := hrel
    have HN := Lib.hid hnone
    clear hnone
    by_cases hlt : k < n
    · obtain ⟨x, b, off, A7, n7, c7, A8, n8, c8, hx, rfl, hS, hlb, f0, f1, f2, f3, f4, f5, f6, f7, f8, hs7, hs8⟩ := EntryK.at_ (h.below hb) k hlt
      have HX := Lib.hid hx
      clear hx
      have hn7 := hs7.le
      have hn8 := hs8.le
      have hl7 := Lib.hid hs7.hl
      have hl8 := Lib.hid hs8.hl
      by_cases hA : (n7 : Int) ≤ 20 ∧ (n8 : Int) ≤ 20
      rotate_left 1
      · have HF : Hid (R = false) := by
          rw [HR.out, smallLog, all_at HX.out (by rw [smallE, hl7.out, hl8.out, Bool.eq_false_iff]; intro h; simp only [Bool.and_eq_true, decide_eq_true_eq] at h; exact hA ⟨h.1.1, h.1.2⟩)]
          rfl
        have HA := Lib.hid hA
        clear hA
        go_wp2
        all_goals first
          | (go_ret; exact ⟨ret_bool HF.out.symm, bt hb (below1 _ _)⟩)
          | (refine (HA.out ?_).elim; simp_all)
      · obtain ⟨a1, a2⟩ := hA
        go_wp2
        go_loopw [29] (fun i w2 => ∃ j : Nat, j ≤ n7 ∧ i = .int .i64 j ∧ Below w.heap.size w w2 ∧ Below wr.heap.size wr w2 ∧ NoneTill (fun r : RuleD => !decide ((r.pat.size : Int) ≤ 300)) x.delta.put j) (fun i _ => n7 - (intOf i).toNat)
        case atStart => exact ⟨0, Nat.zero_le _, rfl, bt hb (below1 _ _), below1 _ _, NoneTill.zero _ _⟩
        case round =>
          obtain ⟨j, hj, rfl, hb2, hb3, hnone2⟩ := hrel
          have HN2 := Lib.hid hnone2
          clear hnone2
          by_cases hlt2 : j < n7
          · obtain ⟨r, b2, off2, hr, rfl, hS2, hlb2, g0, g1, g2, g3, g4⟩ := RuleK.at_ (hs7.below hb3) j hlt2
            have HRR := Lib.hid hr
            clear hr
            by_cases hp : (r.pat.size : Int) ≤ 300
            · go_wp2
              go_roundw
              case rel => exact ⟨j + 1, by omega, by go_num, bt hb2 (below1 _ _), bt hb3 (below1 _ _), HN2.out.succ HRR.out (by simp [hp])⟩
              case measure => simp [intOf]; omega
            · go_wp2
              go_ret
              refine ⟨ret_bool ?_, bt hb2 (below1 _ _)⟩
              rw [HR.out, smallLog, all_at HX.out (by rw [smallE, all_at HRR.out (by simp; omega)]; simp)]
              rfl
          · go_wp2
            have e : j = x.delta.put.length := by have := hl7.out; omega
            have hall : x.delta.put.all (fun r => decide ((r.pat.size : Int) ≤ 300)) = true := by
              have := HN2.out
              rw [e] at this
              exact this.all_not
            go_roundw
            case rel => exact ⟨k + 1, by omega, by go_num, hb2, HN.out.succ HX.out (by rw [smallE, hl7.out, hl8.out, hall]; simp [a1, a2])⟩
            case measure => simp [intOf]; omega
    · have e : k = l.length := by have := hl.out; omega
      have hall : Hid (l.all smallE = true) := by
        have := HN.out
        rw [e] at this
        exact this.all_not
      have hR' : Hid (R = decide ((n : Int) ≤ 70)) := by
        show R = _
        rw [HR.out, smallLog, hall.out, hl.out]
        rfl
      clear e
      go_wp2
      go_ret
      exact ⟨ret_bool hR'.out.symm, hb⟩

/-- colandermade.SmallState -/
theorem smallState_any {S : Nat → Prop} (s : StateD) (A : Option Addr) (n cap : Nat) (w : World) (h : Sl EntryK S w A n cap s.log) :
    Calls Try.prog 8 #[.agg #[.int .i64 s.view, .int .i64 s.normal, .int .i64 s.commit, .int .i64 s.active, .slice A n cap]] w fun e w' => e = .returned (.bool (smallLog s.log)) ∧ Below w.heap.size w w' := by
  go_enter Try.func8, Try.ntmps8
  go_wp2_with (go_at_call 20; refine (smallLog_any _ (h.below (below1 _ _))).mono ?_; rintro e w1 ⟨rfl, hb1⟩)
  go_ret
  exact ⟨rfl, bt (below1 _ _) hb1⟩
end Go.Proofs.Ytlgdiloddphgnaa
