import Derived.Test.YtlgdiloddphgnaaSpec2
import Derived.Test.YtlgdiloddphgnaaW15
set_option linter.unusedSimpArgs false
set_option linter.unusedVariables false
namespace Go.Proofs.Ytlgdiloddphgnaa
open Go.RowKit

set_option maxHeartbeats 4000000 in
theorem apply_k1 {S : Nat → Prop} {w : World} {b off : Nat} {e : TypeId} {cs : Array Value} {A : Option Addr} {n cap : Nat} {s : StateD} (r : RecordD) (A3 : Option Addr) (n3 c3 : Nat)
    (h : StateAt S w b off e cs A n cap s) (hS : ∀ k, S k → k ≠ b) (hk : r.kind = 1) (hc : s.view ≤ r.a ∧ s.normal ≤ r.b ∧ r.b ≤ r.a) :
    Calls Try.prog 37 #[.pointer (some ⟨b, off, none⟩), .agg #[.int .i64 r.kind, .int .i64 r.a, .int .i64 r.b, .slice A3 n3 c3]] w fun e1 w' =>
      Ends e1 (.bool true) (Applied S w b off e cs { s with view := r.a, normal := r.b } w') := by
  obtain ⟨p0, p1, p2, p3, p4, pf, hlb⟩ := h.cells
  have hb1 : (r.kind == 1) = true := by simpa using hk
  obtain ⟨a1, a2, a3⟩ := hc
  clear hk
  go_enter Try.func37, Try.ntmps37
  go_wp2
  go_quiet (fail)
  go_wp2
  go_region
  go_wp2
  go_ret
  refine ⟨rfl, ?_⟩
  have hz := h.sizes
  have T : Tch b w ((((w.alloc (.cells #[.int .i64 r.kind, .int .i64 r.a, .int .i64 r.b, .slice A3 n3 c3] 57)).drewN (nq + 1)).setCell ⟨b, off, none⟩ (.int .i64 r.a)).setCell ⟨b, off + 1, none⟩ (.int .i64 r.b)) := ((((Tch.refl b w).alloc _).drewN _).setCell _ _).setCell _ _
  refine Applied.mk h T (setCell_box (setCell_box (alloc_heap h.heap) _) _) ?_ ?_ ?_ ?_ ?_ (h.log.tch T hS) ?_
  · simp [Array.getElem?_setIfInBounds]; omega
  · simp [Array.getElem?_setIfInBounds]; omega
  · simp [Array.getElem?_setIfInBounds, h.c2]
  · simp [Array.getElem?_setIfInBounds, h.c3]
  · simp [Array.getElem?_setIfInBounds, h.c4]
  · intro j hj
    rw [Array.getElem?_setIfInBounds_ne (by omega), Array.getElem?_setIfInBounds_ne (by omega)]
set_option maxHeartbeats 4000000 in
theorem apply_k4 {S : Nat → Prop} {w : World} {b off : Nat} {e : TypeId} {cs : Array Value} {A : Option Addr} {n cap : Nat} {s : StateD} (r : RecordD) (A3 : Option Addr) (n3 c3 : Nat)
    (h : StateAt S w b off e cs A n cap s) (hS : ∀ k, S k → k ≠ b) (hk : r.kind = 4) (hc : s.commit ≤ r.a ∧ r.a ≤ (n : Int)) :
    Calls Try.prog 37 #[.pointer (some ⟨b, off, none⟩), .agg #[.int .i64 r.kind, .int .i64 r.a, .int .i64 r.b, .slice A3 n3 c3]] w fun e1 w' =>
      Ends e1 (.bool true) (Applied S w b off e cs { s with commit := r.a } w') := by
  obtain ⟨p0, p1, p2, p3, p4, pf, hlb⟩ := h.cells
  have hb1 : (r.kind == 1) = false := by simp [hk]
  have hb2 : (r.kind == 2) = false := by simp [hk]
  have hb3 : (r.kind == 3) = false := by simp [hk]
  have hb4 : (r.kind == 4) = true := by simp [hk]
  obtain ⟨a1, a2⟩ := hc
  clear hk
  go_enter Try.func37, Try.ntmps37
  go_wp2
  repeat (go_quiet (fail); go_wp2)
  go_ret
  refine ⟨rfl, ?_⟩
  have hz := h.sizes
  refine Applied.mk (A' := A) (n' := n) (c' := cap) h ((((Tch.refl b w).alloc _).drewN _).setCell _ _) (setCell_box (alloc_heap h.heap) _) ?_ ?_ ?_ ?_ ?_ (h.log.tch ((((Tch.refl b w).alloc _).drewN _).setCell _ _) hS) ?_
  · simp [Array.getElem?_setIfInBounds, h.c0]
  · simp [Array.getElem?_setIfInBounds, h.c1]
  · simp [Array.getElem?_setIfInBounds]; omega
  · simp [Array.getElem?_setIfInBounds, h.c3]
  · simp [Array.getElem?_setIfInBounds, h.c4]
  · intro j hj
    rw [Array.getElem?_setIfInBounds_ne (by omega)]

set_option maxHeartbeats 4000000 in
theorem apply_k5 {S : Nat → Prop} {w : World} {b off : Nat} {e : TypeId} {cs : Array Value} {A : Option Addr} {n cap : Nat} {s : StateD} (r : RecordD) (A3 : Option Addr) (n3 c3 : Nat)
    (h : StateAt S w b off e cs A n cap s) (hS : ∀ k, S k → k ≠ b) (hk : r.kind = 5) (hc : r.a ≤ 64) :
    Calls Try.prog 37 #[.pointer (some ⟨b, off, none⟩), .agg #[.int .i64 r.kind, .int .i64 r.a, .int .i64 r.b, .slice A3 n3 c3]] w fun e1 w' =>
      Ends e1 (.bool true) (Applied S w b off e cs { s with active := r.a } w') := by
  obtain ⟨p0, p1, p2, p3, p4, pf, hlb⟩ := h.cells
  have hb1 : (r.kind == 1) = false := by simp [hk]
  have hb2 : (r.kind == 2) = false := by simp [hk]
  have hb3 : (r.kind == 3) = false := by simp [hk]
  have hb4 : (r.kind == 4) = false := by simp [hk]
  have hb5 : (r.kind == 5) = true := by simp [hk]
  clear hk
  go_enter Try.func37, Try.ntmps37
  go_wp2
  repeat (go_quiet (fail); go_wp2)
  go_ret
  refine ⟨rfl, ?_⟩
  have hz := h.sizes
  refine Applied.mk (A' := A) (n' := n) (c' := cap) h ((((Tch.refl b w).alloc _).drewN _).setCell _ _) (setCell_box (alloc_heap h.heap) _) ?_ ?_ ?_ ?_ ?_ (h.log.tch ((((Tch.refl b w).alloc _).drewN _).setCell _ _) hS) ?_
  · simp [Array.getElem?_setIfInBounds, h.c0]
  · simp [Array.getElem?_setIfInBounds, h.c1]
  · simp [Array.getElem?_setIfInBounds, h.c2]
  · simp [Array.getElem?_setIfInBounds]; omega
  · simp [Array.getElem?_setIfInBounds, h.c4]
  · intro j hj
    rw [Array.getElem?_setIfInBounds_ne (by omega)]

set_option maxHeartbeats 4000000 in
theorem apply_k3 {S : Nat → Prop} {w : World} {b off : Nat} {e : TypeId} {cs : Array Value} {A : Option Addr} {n cap : Nat} {s : StateD} (r : RecordD) (A3 : Option Addr) (n3 c3 : Nat)
    (h : StateAt S w b off e cs A n cap s) (hS : ∀ k, S k → k ≠ b) (hk : r.kind = 3) (m : Nat) (hm : r.a = m) (hc : s.commit ≤ (m : Int)) (hc2 : m ≤ n) :
    Calls Try.prog 37 #[.pointer (some ⟨b, off, none⟩), .agg #[.int .i64 r.kind, .int .i64 r.a, .int .i64 r.b, .slice A3 n3 c3]] w fun e1 w' =>
      Ends e1 (.bool true) (Applied S w b off e cs { s with log := s.log.take m } w') := by
  obtain ⟨p0, p1, p2, p3, p4, pf, hlb⟩ := h.cells
  have hb1 : (r.kind == 1) = false := by simp [hk]
  have hb2 : (r.kind == 2) = false := by simp [hk]
  have hb3 : (r.kind == 3) = true := by simp [hk]
  have hcap := h.log.hc
  have hle := h.log.le
  have hmx := h.log.hm
  clear hk
  rw [hm]
  clear hm
  go_enter Try.func37, Try.ntmps37
  go_wp2
  go_quiet (fail)
  go_wp2
  go_quiet (fail)
  go_wp2
  go_region
  all_goals
    go_wp2
    go_ret
    refine ⟨rfl, ?_⟩
    have hz := h.sizes
    refine Applied.mk (A' := A) (n' := m) (c' := cap) h ((((Tch.refl b w).alloc _).drewN _).setCell _ _) (setCell_box (alloc_heap h.heap) _) ?_ ?_ ?_ ?_ ?_ ((h.log.take m hc2).tch ((((Tch.refl b w).alloc _).drewN _).setCell _ _) hS) ?_
    · simp [Array.getElem?_setIfInBounds, h.c0]
    · simp [Array.getElem?_setIfInBounds, h.c1]
    · simp [Array.getElem?_setIfInBounds, h.c2]
    · simp [Array.getElem?_setIfInBounds, h.c3]
    · simp [Array.getElem?_setIfInBounds]; omega
    · intro j hj
      rw [Array.getElem?_setIfInBounds_ne (by omega)]

/-- slices.Clip -/
theorem clip_any {S : Nat → Prop} {A : Option Addr} {n cap : Nat} {l : List EntryD} (w : World) (h : Sl EntryK S w A n cap l) :
    Calls Try.prog 72 #[.slice A n cap] w fun e w' => e = .returned (.slice A n n) ∧ w = w' := by
  have hc := h.hc
  have hm := h.hm
  go_enter Try.func72, Try.ntmps72
  go_wp2
  all_goals
    go_ret
    exact ⟨rfl, rfl⟩
end Go.Proofs.Ytlgdiloddphgnaa
