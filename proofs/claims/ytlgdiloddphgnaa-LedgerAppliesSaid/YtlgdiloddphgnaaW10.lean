import Derived.Test.YtlgdiloddphgnaaW9
namespace Go.Proofs.Ytlgdiloddphgnaa
open Go.RowKit

theorem entry_delta_eq (x y : EntryD) : eqB x y = (decide (x.view = y.view) && decide (x.client = y.client) && decide (x.request = y.request) && eqB x.delta y.delta) := by
  rw [entry_eq, delta_eq]
  simp only [Bool.and_assoc]
theorem entry_cases (x y : EntryD) : (x.view != y.view) = true ∨ ((x.view != y.view) = false ∧ (x.client != y.client) = true) ∨ ((x.view != y.view) = false ∧ (x.client != y.client) = false ∧ (x.request != y.request) = true) ∨
    ((x.view != y.view) = false ∧ (x.client != y.client) = false ∧ (x.request != y.request) = false) := by
  cases (x.view != y.view) <;> cases (x.client != y.client) <;> cases (x.request != y.request) <;> simp

set_option maxHeartbeats 4000000 in
/-- colanderref11.Same -/
theorem same_ref {S S2 : Nat → Prop} {A B : Option Addr} {n cap m cap2 : Nat} {xs ys : List EntryD} (w : World) (h : Sl EntryK S w A n cap xs) (h2 : Sl EntryK S2 w B m cap2 ys) :
    Calls Try.prog 76 #[.slice A n cap, .slice B m cap2] w fun e w' => e = .returned (.bool (eqB xs ys)) ∧ Below w.heap.size w w' := by
  have hn := h.le
  have hm := h2.le
  have hl := Lib.hid h.hl
  have hl2 := Lib.hid h2.hl
  obtain ⟨R, HR⟩ := veil (eqB xs ys)
  rw [← HR.out]
  by_cases hnm : n = m
  rotate_left 1
  · have h3 : ((n : Int) != (m : Int)) = true := by simp; omega
    have HNM := Lib.hid hnm
    clear hnm
    go_enter Try.func76, Try.ntmps76
    go_wp2
    go_ret
    exact ⟨ret_bool (by rw [HR.out, unlike_len (by rw [hl.out, hl2.out]; exact HNM.out)]), Below.refl _ _⟩
  · subst hnm
    go_enter Try.func76, Try.ntmps76
    go_wp2
    go_loopw [5] (fun i wr => ∃ k : Nat, k ≤ n ∧ i = .int .i64 k ∧ Below w.heap.size w wr ∧ LikeTill xs ys k) (fun i _ => n - (intOf i).toNat)
    case atStart => exact ⟨0, Nat.zero_le _, rfl, Below.refl _ _, LikeTill.zero _ _⟩
    case round =>
      obtain ⟨k, hk, rfl, hb, hlike⟩ := hrel
      have HL := Lib.hid hlike
      clear hlike
      by_cases hlt : k < n
      · obtain ⟨x, b, off, A7, n7, c7, A8, n8, c8, hx, rfl, hS, hlb, f0, f1, f2, f3, f4, f5, f6, f7, f8, hs7, hs8⟩ := EntryK.at_ (h.below hb) k hlt
        obtain ⟨y, b2, off2, B7, m7, d7, B8, m8, d8, hy, rfl, hS2, hlb2, g0, g1, g2, g3, g4, g5, g6, g7, g8, ks7, ks8⟩ := EntryK.at_ (h2.below hb) k hlt
        have HX := Lib.hid hx
        have HY := Lib.hid hy
        clear hx hy
        go_wp2
        rcases entry_cases x y with e0 | ⟨e0, e1⟩ | ⟨e0, e1, e2⟩ | ⟨e0, e1, e2⟩
        · have HNE : Hid (x ≠ y) := by
            rintro rfl
            simp at e0
          go_quiet (fail)
          go_wp2
          go_ret
          exact ⟨ret_bool (by rw [HR.out, unlike_at HX.out HY.out HNE.out]), below_drewN hb _⟩
        · have HNE : Hid (x ≠ y) := by
            rintro rfl
            simp at e1
          go_quiet (fail)
          go_wp2
          go_ret
          exact ⟨ret_bool (by rw [HR.out, unlike_at HX.out HY.out HNE.out]), below_drewN hb _⟩
        · have HNE : Hid (x ≠ y) := by
            rintro rfl
            simp at e2
          go_quiet (fail)
          go_wp2
          go_ret
          exact ⟨ret_bool (by rw [HR.out, unlike_at HX.out HY.out HNE.out]), below_drewN hb _⟩
        · have hg := fun (W : World) (hW : Below wr.heap.size wr W) => sameDelta_ref x.delta y.delta W A7 n7 c7 A8 n8 c8 B7 m7 d7 B8 m8 d8 (hs7.below hW) (hs8.below hW) (ks7.below hW) (ks8.below hW)
          have HE : Hid (eqB x y = eqB x.delta y.delta) := by
            show eqB x y = eqB x.delta y.delta
            rw [entry_delta_eq]
            simp_all
          cases hp : eqB x.delta y.delta
          all_goals
            have HP := Lib.hid hp
            rw [hp] at hg
            clear hp
            go_region_held3 (fun w' : World => w'.cell? ⟨b, off + k * 9, none⟩ = some (.int .i64 x.view) ∧ w'.cell? ⟨b, off + k * 9 + 1, none⟩ = some (.int .i64 x.client) ∧ w'.cell? ⟨b, off + k * 9 + 2, none⟩ = some (.int .i64 x.request) ∧ w'.cell? ⟨b, off + k * 9 + 3, none⟩ = some (.int .i64 x.delta.dflt) ∧ w'.cell? ⟨b, off + k * 9 + 4, none⟩ = some (.int .i64 x.delta.closed) ∧ w'.cell? ⟨b, off + k * 9 + 5, none⟩ = some (.int .i64 x.delta.fuel) ∧ w'.cell? ⟨b, off + k * 9 + 6, none⟩ = some (.int .i64 x.delta.stack) ∧ w'.cell? ⟨b, off + k * 9 + 7, none⟩ = some (.slice A7 n7 c7) ∧ w'.cell? ⟨b, off + k * 9 + 8, none⟩ = some (.slice A8 n8 c8) ∧
                w'.cell? ⟨b2, off2 + k * 9, none⟩ = some (.int .i64 y.view) ∧ w'.cell? ⟨b2, off2 + k * 9 + 1, none⟩ = some (.int .i64 y.client) ∧ w'.cell? ⟨b2, off2 + k * 9 + 2, none⟩ = some (.int .i64 y.request) ∧ w'.cell? ⟨b2, off2 + k * 9 + 3, none⟩ = some (.int .i64 y.delta.dflt) ∧ w'.cell? ⟨b2, off2 + k * 9 + 4, none⟩ = some (.int .i64 y.delta.closed) ∧ w'.cell? ⟨b2, off2 + k * 9 + 5, none⟩ = some (.int .i64 y.delta.fuel) ∧ w'.cell? ⟨b2, off2 + k * 9 + 6, none⟩ = some (.int .i64 y.delta.stack) ∧ w'.cell? ⟨b2, off2 + k * 9 + 7, none⟩ = some (.slice B7 m7 d7) ∧ w'.cell? ⟨b2, off2 + k * 9 + 8, none⟩ = some (.slice B8 m8 d8))
              (first | exact ⟨cellb hb2 f0, cellb hb2 f1, cellb hb2 f2, cellb hb2 f3, cellb hb2 f4, cellb hb2 f5, cellb hb2 f6, cellb hb2 f7, cellb hb2 f8, cellb hb2 g0, cellb hb2 g1, cellb hb2 g2, cellb hb2 g3, cellb hb2 g4, cellb hb2 g5, cellb hb2 g6, cellb hb2 g7, cellb hb2 g8⟩ | exact ⟨f0, f1, f2, f3, f4, f5, f6, f7, f8, g0, g1, g2, g3, g4, g5, g6, g7, g8⟩ | go_keep)
              (first | (go_at_call 111; refine (hg _ (Below.drew (Below.refl _ _))).mono ?_; rintro e w1 ⟨rfl, hb1⟩; obtain ⟨hk1, hk2⟩ := bcell hb1; have hb2 : Below wr.heap.size wr w1 := bt (Below.drew (Below.refl _ _)) hb1))
            go_wp2
          · go_ret
            exact ⟨ret_bool (by rw [HR.out, unlike_at HX.out HY.out (eqB_false.1 (HE.out.trans HP.out))]), bt hb hb2⟩
          · go_roundw
            case rel => exact ⟨k + 1, by omega, by go_num, bt hb hb2, HL.out.succ HX.out HY.out (eqB_iff.1 (HE.out.trans HP.out))⟩
            case measure => simp [intOf]; omega
      · go_wp2
        go_ret
        have e : k = xs.length := by have := hl.out; omega
        subst e
        exact ⟨ret_bool (by rw [HR.out, HL.out.all (by rw [hl.out, hl2.out])]), hb⟩
end Go.Proofs.Ytlgdiloddphgnaa
