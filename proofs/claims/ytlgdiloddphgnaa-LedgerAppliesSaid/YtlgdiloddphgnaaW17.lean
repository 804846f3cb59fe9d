import Derived.Test.YtlgdiloddphgnaaW16
import Derived.Test.YtlgdiloddphgnaaGrow
import Derived.Deep.RegionLaw
set_option linter.unusedSimpArgs false
set_option linter.unusedVariables false
namespace Go.Proofs.Ytlgdiloddphgnaa
open Go.RowKit

theorem Sl.none {α : Type} {d : Kn α} {S : Nat → Prop} {w : World} {n cap : Nat} {xs : List α} (h : Sl d S w none n cap xs) : n = 0 := by
  rcases Nat.eq_zero_or_pos n with h0 | h0
  · exact h0
  · have := h.hl
    obtain ⟨b, off, c, hA, _⟩ := h.row 0 (xs[0]'(by omega)) (List.getElem?_eq_getElem (by omega))
    cases hA

set_option maxHeartbeats 4000000 in
theorem apply_k2 {S S3 : Nat → Prop} {w : World} {b off : Nat} {e : TypeId} {cs : Array Value} {A : Option Addr} {n cap : Nat} {s : StateD} (r : RecordD) (A3 : Option Addr) (n3 c3 : Nat)
    (h : StateAt S w b off e cs A n cap s) (hS : ∀ k, S k → k ≠ b) (hk : r.kind = 2) (hc : n < 64) (h3 : Sl EntryK S3 w A3 n3 c3 r.log) (hn3 : 0 < n3) (hn3' : n3 ≤ 70) (hsm : ∀ x ∈ r.log, SmallE x) :
    Calls Try.prog 37 #[.pointer (some ⟨b, off, none⟩), .agg #[.int .i64 r.kind, .int .i64 r.a, .int .i64 r.b, .slice A3 n3 c3]] w fun e1 w' =>
      Ends e1 (.bool true) (Applied (fun k => S k ∨ New w k) w b off e cs { s with log := s.log ++ r.log } w') := by
  obtain ⟨p0, p1, p2, p3, p4, pf, hlb⟩ := h.cells
  have hb1 : (r.kind == 1) = false := by simp [hk]
  have hb2 : (r.kind == 2) = true := by simp [hk]
  have hlog := h.log
  have HSM := Lib.hid hsm
  clear hk hsm
  have hnb : w.heap.size ≠ b := by omega
  go_enter Try.func37, Try.ntmps37
  go_wp2
  go_quiet (fail)
  go_wp2
  have hnew := heap_alloc_new w (.cells #[.int .i64 r.kind, .int .i64 r.a, .int .i64 r.b, .slice A3 n3 c3] 57)
  obtain ⟨z0, z1, z2, z3, zf⟩ := record_box hnew
  go_region_law
    (first | (go_simp; go_at_call 72; refine (clip_any _ (hlog.below (Below.drew (below_drewN (below1 _ _) _)))).mono ?_; rintro e w1 ⟨rfl, rfl⟩) | (go_simp; go_at_call 42; refine (copied_any _ (h3.below (Below.drew (below_drewN (below1 _ _) _))) hn3' HSM.out).mono ?_; rintro e w2 ⟨A', c', rfl, hs2, hb2⟩; have hbw : Below w.heap.size w w2 := (Below.drew (below_drewN (below1 w _) _)).trans (hb2.mono (by simp)); have hlog2 := hlog.below hbw; have q4 := cellb hbw p4; have q3 := cellb hb2 (show World.cell? _ _ = _ from z3)) | (have hgd := hbw.size; refine step_grow (o := ⟨some 65, _, _, _, _, _⟩) (A := A) (n := n) (cap := n) (A2 := A') (m := n3) (c := c') rfl (.tmp 61) (.tmp 64) rfl F_entry rfl rfl (⟨hlog2.hl, Nat.le_refl _, hlog2.le, hlog2.row⟩ : Sl EntryK S w2 A n n s.log) hs2 hn3 (by omega) (fun e => by subst e; exact hlog2.none) (by omega) ?_; intro A5 c5 w5 hs5 g5; have hb5 : Below w2.heap.size w2 w5 := (Below.refl _ _).grown g5 (Nat.le_refl _) (by simp); have y4 := cellb hb5 q4; have x3 := cellb hb5 q3; have hh5 : w5.heap[b]? = some (.cells cs e (0, 0)) := (hb5.block b (by omega)).trans ((hbw.block b hlb).trans h.heap); obtain ⟨_, yf⟩ := box_facts hh5))
  all_goals
    go_wp2
    go_ret
    refine ⟨rfl, ?_⟩
    have hz := h.sizes
    have h' : StateAt (fun k => S k ∨ New w k) w b off e cs A n cap s := ⟨h.heap, h.c0, h.c1, h.c2, h.c3, h.c4, h.log.mono fun _ hq => .inl hq⟩
    have T5 : Tch b w w5 := Tch.of_below (bt hbw hb5)
    refine Applied.mk (A' := A5) (n' := n + n3) (c' := c5) h' (T5.setCell _ _) (setCell_box hh5 _) ?_ ?_ ?_ ?_ ?_ (hs5.keep fun q hq hlt => ?_) ?_
    · simp [Array.getElem?_setIfInBounds, h.c0]
    · simp [Array.getElem?_setIfInBounds, h.c1]
    · simp [Array.getElem?_setIfInBounds, h.c2]
    · simp [Array.getElem?_setIfInBounds, h.c3]
    · simp [Array.getElem?_setIfInBounds]; omega
    · have hz2 := hbw.size
      rcases hq with (hq | hq) | hq
      · exact ⟨Below.heap_setCell _ _ _ _ (hS q hq), .inl hq⟩
      · simp at hq
        exact ⟨Below.heap_setCell _ _ _ _ (by simp; omega), .inr (by simp only [New]; omega)⟩
      · exact ⟨Below.heap_setCell _ _ _ _ (by simp; omega), .inr (by simp only [New]; omega)⟩
    · intro j hj
      rw [Array.getElem?_setIfInBounds_ne (by omega)]
end Go.Proofs.Ytlgdiloddphgnaa
