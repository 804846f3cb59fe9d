import Derived.Test.YtlgdiloddphgnaaW7
namespace Go.Proofs.Ytlgdiloddphgnaa
open Go.RowKit

set_option maxHeartbeats 2000000 in
/-- slices.EqualFunc over entries -/
theorem equalFunc_any {S S2 : Nat → Prop} {A B : Option Addr} {n cap m cap2 : Nat} {xs ys : List EntryD} (w : World) (h : Sl EntryK S w A n cap xs) (h2 : Sl EntryK S2 w B m cap2 ys) :
    Calls Try.prog 64 #[.slice A n cap, .slice B m cap2, .func (.func 65) #[] #[]] w fun e w' => e = .returned (.bool (eqB xs ys)) ∧ Below w.heap.size w w' := by
  have hn := h.le
  have hm := h2.le
  have hl := Lib.hid h.hl
  have hl2 := Lib.hid h2.hl
  obtain ⟨R, HR⟩ := veil (eqB xs ys)
  rw [← HR.out]
  by_cases hnm : n = m
  rotate_left 1
  · have h3 : ((n : Int) != (m : Int)) = true := by simp; omega
    have HNM := Lib.hid hnm
    clear hnm
    go_enter Try.func64, Try.ntmps64
    go_wp2
    go_ret
    exact ⟨ret_bool (by rw [HR.out, unlike_len (by rw [hl.out, hl2.out]; exact HNM.out)]), Below.refl _ _⟩
  · subst hnm
    go_enter Try.func64, Try.ntmps64
    go_wp2
    go_loopw [17] (fun i wr => ∃ k : Nat, k ≤ n ∧ i = .int .i64 k ∧ Below w.heap.size w wr ∧ LikeTill xs ys k) (fun i _ => n - (intOf i).toNat)
    case atStart => exact ⟨0, Nat.zero_le _, rfl, Below.refl _ _, LikeTill.zero _ _⟩
    case round =>
      obtain ⟨k, hk, rfl, hb, hlike⟩ := hrel
      have HL := Lib.hid hlike
      clear hlike
      by_cases hlt : k < n
      · obtain ⟨x, b, off, A7, n7, c7, A8, n8, c8, hx, rfl, hS, hlb, f0, f1, f2, f3, f4, f5, f6, f7, f8, hs7, hs8⟩ := EntryK.at_ (h.below hb) k hlt
        obtain ⟨y, b2, off2, B7, m7, d7, B8, m8, d8, hy, rfl, hS2, hlb2, g0, g1, g2, g3, g4, g5, g6, g7, g8, ks7, ks8⟩ := EntryK.at_ (h2.below hb) k hlt
        have HX := Lib.hid hx
        have HY := Lib.hid hy
        clear hx hy
        have hg := fun (W : World) (hW : Below wr.heap.size wr W) => same_any x y W A7 n7 c7 A8 n8 c8 B7 m7 d7 B8 m8 d8 (hs7.below hW) (hs8.below hW) (ks7.below hW) (ks8.below hW)
        cases hp : eqB x y
        all_goals
          have HP := Lib.hid hp
          rw [hp] at hg
          clear hp
          go_wp2_with (go_at_call 65; refine (hg _ (below2 _ _ _)).mono ?_; rintro e w1 ⟨rfl, hb1⟩; have hb2 := bt (below2 wr _ _) hb1; clear hb1)
        · go_ret
          exact ⟨ret_bool (by rw [HR.out, unlike_at HX.out HY.out (eqB_false.1 HP.out)]), bt hb hb2⟩
        · go_roundw
          case rel => exact ⟨k + 1, by omega, by go_num, bt hb hb2, HL.out.succ HX.out HY.out (eqB_iff.1 HP.out)⟩
          case measure => simp [intOf]; omega
      · go_wp2
        go_ret
        have e : k = xs.length := by have := hl.out; omega
        subst e
        exact ⟨ret_bool (by rw [HR.out, HL.out.all (by rw [hl.out, hl2.out])]), hb⟩

/-- pack.Same -/
theorem Same_any {S S2 : Nat → Prop} {A B : Option Addr} {n cap m cap2 : Nat} {xs ys : List EntryD} (w : World) (h : Sl EntryK S w A n cap xs) (h2 : Sl EntryK S2 w B m cap2 ys) :
    Calls Try.prog 32 #[.slice A n cap, .slice B m cap2] w fun e w' => e = .returned (.bool (eqB xs ys)) ∧ Below w.heap.size w w' := by
  go_enter Try.func32, Try.ntmps32
  go_wp2_with (go_at_call 64; refine (equalFunc_any _ h h2).mono ?_; rintro e w1 ⟨rfl, hb1⟩)
  go_ret
  exact ⟨rfl, hb1⟩
end Go.Proofs.Ytlgdiloddphgnaa
