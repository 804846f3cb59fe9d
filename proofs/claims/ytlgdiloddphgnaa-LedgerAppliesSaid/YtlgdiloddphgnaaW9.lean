import Derived.Test.YtlgdiloddphgnaaW8
namespace Go.Proofs.Ytlgdiloddphgnaa
open Go.RowKit

theorem DeltaD.ext' {x y : DeltaD} (h3 : x.dflt = y.dflt) (h4 : x.closed = y.closed) (h5 : x.fuel = y.fuel) (h6 : x.stack = y.stack) (h7 : x.put = y.put) (h8 : x.drop = y.drop) : x = y := by
  cases x
  cases y
  simp_all
theorem delta_eq (x y : DeltaD) : eqB x y = (decide (x.dflt = y.dflt) && decide (x.closed = y.closed) && decide (x.fuel = y.fuel) && decide (x.stack = y.stack) && eqB x.put y.put && eqB x.drop y.drop) := by
  rw [Bool.eq_iff_iff]
  simp only [Bool.and_eq_true, decide_eq_true_eq, eqB_iff]
  constructor
  · rintro rfl
    simp
  · rintro ⟨⟨⟨⟨⟨h3, h4⟩, h5⟩, h6⟩, h7⟩, h8⟩
    exact DeltaD.ext' h3 h4 h5 h6 h7 h8
/-- Where two changes part before their lists, in the walk's own words. -/
theorem delta_cases (x y : DeltaD) (n m n2 m2 : Nat) :
    (x.dflt = y.dflt ∧ x.closed = y.closed ∧ x.fuel = y.fuel ∧ x.stack = y.stack ∧ n = m ∧ n2 = m2) ∨ ¬ (x.dflt = y.dflt ∧ x.closed = y.closed ∧ x.fuel = y.fuel ∧ x.stack = y.stack ∧ n = m ∧ n2 = m2) := Classical.em _

set_option maxHeartbeats 4000000 in
/-- colanderref11.SameDelta -/
theorem sameDelta_ref {S S2 : Nat → Prop} (x y : DeltaD) (w : World) (A7 : Option Addr) (n7 c7 : Nat) (A8 : Option Addr) (n8 c8 : Nat) (B7 : Option Addr) (m7 d7 : Nat) (B8 : Option Addr) (m8 d8 : Nat)
    (h7 : Sl RuleK S w A7 n7 c7 x.put) (h8 : Sl Kn.int S w A8 n8 c8 x.drop) (k7 : Sl RuleK S2 w B7 m7 d7 y.put) (k8 : Sl Kn.int S2 w B8 m8 d8 y.drop) :
    Calls Try.prog 111 #[.agg #[.int .i64 x.dflt, .int .i64 x.closed, .int .i64 x.fuel, .int .i64 x.stack, .slice A7 n7 c7, .slice A8 n8 c8],
      .agg #[.int .i64 y.dflt, .int .i64 y.closed, .int .i64 y.fuel, .int .i64 y.stack, .slice B7 m7 d7, .slice B8 m8 d8]] w fun e w' => e = .returned (.bool (eqB x y)) ∧ Below w.heap.size w w' := by
  obtain ⟨R, HR⟩ := veil (eqB x y)
  rw [← HR.out]
  have hn7 := h7.le
  have hn8 := h8.le
  have hm7 := k7.le
  have hm8 := k8.le
  have hl7 := Lib.hid h7.hl
  have hl8 := Lib.hid h8.hl
  have kl7 := Lib.hid k7.hl
  have kl8 := Lib.hid k8.hl
  rcases delta_cases x y n7 m7 n8 m8 with ⟨e0, e1, e2, e3, rfl, rfl⟩ | hne
  rotate_left 1
  · have HF : Hid (R = false) := by
      rw [HR.out, delta_eq, Bool.eq_false_iff]
      intro h
      simp only [Bool.and_eq_true, decide_eq_true_eq, eqB_iff] at h
      obtain ⟨⟨⟨⟨⟨h3, h4⟩, h5⟩, h6⟩, hp⟩, hd⟩ := h
      exact hne ⟨h3, h4, h5, h6, by rw [← h7.hl, ← k7.hl, hp], by rw [← h8.hl, ← k8.hl, hd]⟩
    have HNE := Lib.hid hne
    clear hne
    go_enter Try.func111, Try.ntmps111
    go_wp2
    all_goals first
      | (go_ret; exact ⟨ret_bool HF.out.symm, below2 _ _ _⟩)
      | (refine (HNE.out ?_).elim; simp_all; try omega)
  · obtain ⟨xd, xc, xf, xs, xp, xq⟩ := x
    obtain ⟨yd, yc, yf, ys, yp, yq⟩ := y
    dsimp only at e0 e1 e2 e3 h7 h8 k7 k8 hl7 hl8 kl7 kl8 HR ⊢
    subst e0 e1 e2 e3
    go_enter Try.func111, Try.ntmps111
    go_wp2
    go_loopw [5] (fun i wr => ∃ k : Nat, k ≤ n7 ∧ i = .int .i64 k ∧ Below w.heap.size w wr ∧ wr.cell? ⟨w.heap.size, 4, none⟩ = some (.slice A7 n7 c7) ∧ wr.cell? ⟨w.heap.size, 5, none⟩ = some (.slice A8 n8 c8) ∧ wr.cell? ⟨w.heap.size + 1, 4, none⟩ = some (.slice B7 n7 d7) ∧ wr.cell? ⟨w.heap.size + 1, 5, none⟩ = some (.slice B8 n8 d8) ∧ LikeTill xp yp k) (fun i _ => n7 - (intOf i).toNat)
    case atStart => exact ⟨0, Nat.zero_le _, rfl, below2 _ _ _, by go_simp, by go_simp, by go_simp, by go_simp, LikeTill.zero _ _⟩
    case round =>
      obtain ⟨k, hk, rfl, hb, c4, c5, c6, c7', hlike⟩ := hrel
      have HL := Lib.hid hlike
      clear hlike
      by_cases hlt : k < n7
      · obtain ⟨r, b, off, hx, rfl, hS, hlb, f0, f1, f2, f3, f4⟩ := RuleK.at_ (h7.below hb) k hlt
        obtain ⟨r2, b2, off2, hy, rfl, hS2, hlb2, g0, g1, g2, g3, g4⟩ := RuleK.at_ (k7.below hb) k hlt
        have HX := Lib.hid hx
        have HY := Lib.hid hy
        clear hx hy
        go_wp2
        rcases rule_cases r r2 with rfl | ⟨hne, e0⟩ | ⟨hne, e0, e1⟩ | ⟨hne, e0, e1, e2⟩ | ⟨hne, e0, e1, e2, e3⟩ | ⟨hne, e0, e1, e2, e3, e4⟩
        · go_quiet (fail)
          go_wp2
          go_roundw
          case rel => exact ⟨k + 1, by omega, by go_num, below_drewN hb _, by simpa using c4, by simpa using c5, by simpa using c6, by simpa using c7', HL.out.succ HX.out HY.out rfl⟩
          case measure => simp [intOf]; omega
        all_goals
          have HNE := Lib.hid hne
          clear hne
          go_quiet (fail)
          go_wp2
          go_ret
          exact ⟨ret_bool (by rw [HR.out, delta_eq]; dsimp only; rw [unlike_at HX.out HY.out HNE.out]; simp), below_drewN hb _⟩
      · go_wp2
        have hput : Hid (eqB xp yp = true) := by
          have e : k = xp.length := by have := hl7.out; omega
          subst e
          exact HL.out.all (by rw [hl7.out, kl7.out])
        go_loopw [6] (fun i w2 => ∃ k : Nat, k ≤ n8 ∧ i = .int .i64 k ∧ Below w.heap.size w w2 ∧ w2.cell? ⟨w.heap.size, 5, none⟩ = some (.slice A8 n8 c8) ∧ w2.cell? ⟨w.heap.size + 1, 5, none⟩ = some (.slice B8 n8 d8) ∧ LikeTill xq yq k) (fun i _ => n8 - (intOf i).toNat)
        case atStart => exact ⟨0, Nat.zero_le _, rfl, hb, c5, c7', LikeTill.zero _ _⟩
        case round =>
          obtain ⟨k2, hk2, rfl, hb2, c52, c72, hlike2⟩ := hrel
          have HL2 := Lib.hid hlike2
          clear hlike2
          by_cases hlt2 : k2 < n8
          · obtain ⟨r, b, off, hx, rfl, hS, hlb, f0⟩ := (h8.below hb2).int_at k2 hlt2
            obtain ⟨r2, b2, off2, hy, rfl, hS2, hlb2, g0⟩ := (k8.below hb2).int_at k2 hlt2
            have HX := Lib.hid hx
            have HY := Lib.hid hy
            clear hx hy
            go_wp2
            rcases int_cases r r2 with rfl | ⟨hne, e0⟩
            · go_quiet (fail)
              go_wp2
              go_roundw
              case rel => exact ⟨k2 + 1, by omega, by go_num, below_drewN hb2 _, by simpa using c52, by simpa using c72, HL2.out.succ HX.out HY.out rfl⟩
              case measure => simp [intOf]; omega
            · have HNE := Lib.hid hne
              clear hne
              go_quiet (fail)
              go_wp2
              go_ret
              exact ⟨ret_bool (by rw [HR.out, delta_eq]; dsimp only; rw [unlike_at HX.out HY.out HNE.out]; simp), below_drewN hb2 _⟩
          · go_wp2
            go_ret
            have e : k2 = xq.length := by have := hl8.out; omega
            subst e
            have hd : eqB xq yq = true := HL2.out.all (by rw [hl8.out, kl8.out])
            exact ⟨ret_bool (by rw [HR.out, delta_eq]; dsimp only; rw [hput.out, hd]; simp), hb2⟩
end Go.Proofs.Ytlgdiloddphgnaa
