import Derived.Test.YtlgdiloddphgnaaW3
namespace Go.Proofs.Ytlgdiloddphgnaa
open Go.RowKit

theorem NoneTill.all_not {α : Type} {p : α → Bool} {xs : List α} (h : NoneTill (fun x => !p x) xs xs.length) : xs.all p = true := by
  have := h.all
  rw [List.any_eq_false] at this
  rw [List.all_eq_true]
  intro x hx
  have := this x hx
  simpa using this
theorem all_at {α : Type} {p : α → Bool} {xs : List α} {k : Nat} {x : α} (hx : xs[k]? = some x) (hp : p x = false) : xs.all p = false :=
  List.all_eq_false.2 ⟨x, List.mem_of_getElem? hx, by rw [hp]; decide⟩

theorem entryRight_split (x : EntryD) {n7 n8 : Nat} (h7 : x.delta.put.length = n7) (h8 : x.delta.drop.length = n8) : entryRight x = (num x.view 0 && num x.client 1 && num x.request 1 && num x.delta.dflt (-1) && num x.delta.closed (-1) && num x.delta.fuel (-1) && num x.delta.stack (-1) && decide ((n7 : Int) ≤ 16) && decide ((n8 : Int) ≤ 16) && x.delta.put.all ruleRight && x.delta.drop.all (num · 1)) := by
  rw [entryRight_parts x h7 h8, List.not_any_eq_all_not, List.not_any_eq_all_not]
  simp

set_option maxHeartbeats 2000000 in
/-- colanderref11.Entry.Right -/
theorem entryRight_ref {S : Nat → Prop} (x : EntryD) (w : World) (A7 : Option Addr) (n7 c7 : Nat) (A8 : Option Addr) (n8 c8 : Nat) (h7 : Sl RuleK S w A7 n7 c7 x.delta.put) (h8 : Sl Kn.int S w A8 n8 c8 x.delta.drop) :
    Calls Try.prog 52 #[.agg #[.int .i64 x.view, .int .i64 x.client, .int .i64 x.request, .int .i64 x.delta.dflt, .int .i64 x.delta.closed, .int .i64 x.delta.fuel, .int .i64 x.delta.stack, .slice A7 n7 c7, .slice A8 n8 c8]] w fun e w' => e = .returned (.bool (entryRight x)) ∧ Below w.heap.size w w' := by
  have hl7 := Lib.hid h7.hl
  have hl8 := Lib.hid h8.hl
  have hm7 := h7.le
  have hm8 := h8.le
  obtain ⟨R, hR⟩ : ∃ R, R = entryRight x := ⟨_, rfl⟩
  rw [← hR]
  have HR := Lib.hid hR
  clear hR
  have hle := entryRight_split x h7.hl h8.hl
  have HL := Lib.hid hle
  clear hle
  by_cases hA : num x.view 0 = true ∧ num x.client 1 = true ∧ num x.request 1 = true ∧ num x.delta.dflt (-1) = true ∧ num x.delta.closed (-1) = true ∧ num x.delta.fuel (-1) = true ∧ num x.delta.stack (-1) = true ∧ (n7 : Int) ≤ 16 ∧ (n8 : Int) ≤ 16
  rotate_left 1
  · have HF : Hid (R = false) := by
      rw [HR.out, HL.out]
      rw [Bool.eq_false_iff]
      intro h
      simp only [Bool.and_eq_true, decide_eq_true_eq] at h
      obtain ⟨⟨⟨⟨⟨⟨⟨⟨⟨⟨h1, h2⟩, h3⟩, h4⟩, h5⟩, h6⟩, h7⟩, h8⟩, h9⟩, _⟩, _⟩ := h
      exact hA ⟨h1, h2, h3, h4, h5, h6, h7, h8, h9⟩
    have HA := Lib.hid hA
    clear hA
    go_enter Try.func52, Try.ntmps52
    go_wp2_with (go_at_call 53; refine (within_any _ _ _ _).mono ?_; rintro e w' ⟨rfl, rfl⟩; rw [within_num])
    all_goals first
      | (go_ret; exact ⟨ret_bool HF.out.symm, below2 _ _ _⟩)
      | (refine (HA.out ?_).elim; simp_all)
  obtain ⟨a1, a2, a3, a4, a5, a6, a7, a8, a9⟩ := hA
  go_enter Try.func52, Try.ntmps52
  go_wp2_with (go_at_call 53; refine (within_any _ _ _ _).mono ?_; rintro e w' ⟨rfl, rfl⟩; rw [within_num])
  go_loopw [4] (fun i wr => ∃ k : Nat, k ≤ n7 ∧ i = .int .i64 k ∧ Below w.heap.size w wr ∧ w.heap.size + 2 ≤ wr.heap.size ∧ wr.cell? ⟨w.heap.size + 1, 4, none⟩ = some (.slice A7 n7 c7) ∧ wr.cell? ⟨w.heap.size + 1, 5, none⟩ = some (.slice A8 n8 c8) ∧ NoneTill (fun r => !ruleRight r) x.delta.put k) (fun i _ => n7 - (intOf i).toNat)
  case atStart => exact ⟨0, Nat.zero_le _, rfl, below2 _ _ _, by simp, by go_simp, by go_simp, NoneTill.zero _ _⟩
  case round =>
    obtain ⟨k, hk, rfl, hb, hz, c4, c5, hnone⟩ := hrel
    have HN := Lib.hid hnone
    clear hnone
    by_cases hlt : k < n7
    · obtain ⟨r, b, off, hx, rfl, hS, hlb, f0, f1, f2, f3, f4⟩ := RuleK.at_ (h7.below hb) k hlt
      have HX := Lib.hid hx
      clear hx
      cases hp : ruleRight r
      all_goals
        have HP := Lib.hid hp
        have hg := fun w => ruleRight_ref r w
        rw [hp] at hg
        clear hp
        go_wp2_with (go_at_call 89; refine (hg _).mono ?_; rintro e w1 ⟨rfl, hb1⟩; obtain ⟨hk1, hk2⟩ := bcell hb1; have hz1 := hb1.size)
      · go_ret
        exact ⟨ret_bool (by rw [HR.out, HL.out, all_at HX.out HP.out]; simp), bt hb hb1⟩
      · go_roundw
        case rel => exact ⟨k + 1, by omega, by go_num, bt hb hb1, by omega, cellb hb1 c4, cellb hb1 c5, HN.out.succ HX.out (by rw [HP.out]; rfl)⟩
        case measure => simp [intOf]; omega
    · go_wp2
      have hall : Hid (x.delta.put.all ruleRight = true) := (by have e : k = x.delta.put.length := by (have := hl7.out; omega)
                                                                subst e
                                                                exact HN.out.all_not)
      go_loopw [5] (fun i w2 => ∃ k : Nat, k ≤ n8 ∧ i = .int .i64 k ∧ Below w.heap.size w w2 ∧ w2.cell? ⟨w.heap.size + 1, 5, none⟩ = some (.slice A8 n8 c8) ∧ NoneTill (fun i => !num i 1) x.delta.drop k) (fun i _ => n8 - (intOf i).toNat)
      case atStart => exact ⟨0, Nat.zero_le _, rfl, hb, c5, NoneTill.zero _ _⟩
      case round =>
        obtain ⟨k2, hk2, rfl, hb2, c52, hnone2⟩ := hrel
        have HN2 := Lib.hid hnone2
        clear hnone2
        by_cases hlt2 : k2 < n8
        · obtain ⟨r, b, off, hx, rfl, hS, hlb, f0⟩ := (h8.below hb2).int_at k2 hlt2
          have HX := Lib.hid hx
          clear hx
          cases hp : num r 1
          all_goals
            have HP := Lib.hid hp
            have hg := fun w => within_any r 1 1099511627776 w
            rw [within_num, hp] at hg
            clear hp
            go_wp2_with (go_at_call 53; refine (hg _).mono ?_; rintro e w' ⟨rfl, rfl⟩)
          · go_ret
            exact ⟨ret_bool (by rw [HR.out, HL.out, all_at HX.out HP.out]; simp), hb2⟩
          · go_roundw
            case rel => exact ⟨k2 + 1, by omega, by go_num, hb2, c52, HN2.out.succ HX.out (by rw [HP.out]; rfl)⟩
            case measure => simp [intOf]; omega
        · go_wp2
          go_ret
          have e : k2 = x.delta.drop.length := by have := hl8.out; omega
          subst e
          have hd : (x.delta.drop.all fun i => num i 1) = true := HN2.out.all_not
          exact ⟨ret_bool (by rw [HR.out, HL.out, hall.out, hd]; simp [a1, a2, a3, a4, a5, a6, a7, a8, a9]), hb2⟩
end Go.Proofs.Ytlgdiloddphgnaa
