import Derived.Test.YtlgdiloddphgnaaW17
set_option linter.unusedSimpArgs false
set_option linter.unusedVariables false
namespace Go.Proofs.Ytlgdiloddphgnaa
open Go.RowKit

set_option maxHeartbeats 1000000 in
theorem apply_f1a {S : Nat → Prop} {w : World} {b off : Nat} {e : TypeId} {cs : Array Value} {A : Option Addr} {n cap : Nat} {s : StateD} (r : RecordD) (A3 : Option Addr) (n3 c3 : Nat)
    (h : StateAt S w b off e cs A n cap s) (hk : r.kind = 1) (x1 : r.a < s.view) :
    Calls Try.prog 37 #[.pointer (some ⟨b, off, none⟩), .agg #[.int .i64 r.kind, .int .i64 r.a, .int .i64 r.b, .slice A3 n3 c3]] w fun e1 w' =>
      Ends e1 (.bool false) (Below w.heap.size w w') := by
  obtain ⟨p0, p1, p2, p3, p4, pf, hlb⟩ := h.cells
  have hle := h.log.le
  have hb1 : (r.kind == 1) = true := by simp [hk]
  have hb2 : (r.kind == 2) = false := by simp [hk]
  have hb3 : (r.kind == 3) = false := by simp [hk]
  have hb4 : (r.kind == 4) = false := by simp [hk]
  have hb5 : (r.kind == 5) = false := by simp [hk]
  have x1d : decide (s.view ≤ r.a) = false := decide_eq_false (by omega)
  clear hk
  go_enter Try.func37, Try.ntmps37
  go_wp2
  repeat (go_quiet (fail); go_wp2)
  go_ret
  exact ⟨rfl, below_drewN (below1 _ _) _⟩

set_option maxHeartbeats 1000000 in
theorem apply_f1b {S : Nat → Prop} {w : World} {b off : Nat} {e : TypeId} {cs : Array Value} {A : Option Addr} {n cap : Nat} {s : StateD} (r : RecordD) (A3 : Option Addr) (n3 c3 : Nat)
    (h : StateAt S w b off e cs A n cap s) (hk : r.kind = 1) (x1 : s.view ≤ r.a) (x2 : r.b < s.normal) :
    Calls Try.prog 37 #[.pointer (some ⟨b, off, none⟩), .agg #[.int .i64 r.kind, .int .i64 r.a, .int .i64 r.b, .slice A3 n3 c3]] w fun e1 w' =>
      Ends e1 (.bool false) (Below w.heap.size w w') := by
  obtain ⟨p0, p1, p2, p3, p4, pf, hlb⟩ := h.cells
  have hle := h.log.le
  have hb1 : (r.kind == 1) = true := by simp [hk]
  have hb2 : (r.kind == 2) = false := by simp [hk]
  have hb3 : (r.kind == 3) = false := by simp [hk]
  have hb4 : (r.kind == 4) = false := by simp [hk]
  have hb5 : (r.kind == 5) = false := by simp [hk]
  have x2d : decide (s.normal ≤ r.b) = false := decide_eq_false (by omega)
  clear hk
  go_enter Try.func37, Try.ntmps37
  go_wp2
  repeat (go_quiet (fail); go_wp2)
  go_ret
  exact ⟨rfl, below_drewN (below1 _ _) _⟩

set_option maxHeartbeats 1000000 in
theorem apply_f1c {S : Nat → Prop} {w : World} {b off : Nat} {e : TypeId} {cs : Array Value} {A : Option Addr} {n cap : Nat} {s : StateD} (r : RecordD) (A3 : Option Addr) (n3 c3 : Nat)
    (h : StateAt S w b off e cs A n cap s) (hk : r.kind = 1) (x1 : s.view ≤ r.a) (x2 : s.normal ≤ r.b) (x3 : r.a < r.b) :
    Calls Try.prog 37 #[.pointer (some ⟨b, off, none⟩), .agg #[.int .i64 r.kind, .int .i64 r.a, .int .i64 r.b, .slice A3 n3 c3]] w fun e1 w' =>
      Ends e1 (.bool false) (Below w.heap.size w w') := by
  obtain ⟨p0, p1, p2, p3, p4, pf, hlb⟩ := h.cells
  have hle := h.log.le
  have hb1 : (r.kind == 1) = true := by simp [hk]
  have hb2 : (r.kind == 2) = false := by simp [hk]
  have hb3 : (r.kind == 3) = false := by simp [hk]
  have hb4 : (r.kind == 4) = false := by simp [hk]
  have hb5 : (r.kind == 5) = false := by simp [hk]
  have x3d : decide (r.b ≤ r.a) = false := decide_eq_false (by omega)
  clear hk
  go_enter Try.func37, Try.ntmps37
  go_wp2
  repeat (go_quiet (fail); go_wp2)
  go_ret
  exact ⟨rfl, below_drewN (below1 _ _) _⟩

set_option maxHeartbeats 1000000 in
theorem apply_f2 {S : Nat → Prop} {w : World} {b off : Nat} {e : TypeId} {cs : Array Value} {A : Option Addr} {n cap : Nat} {s : StateD} (r : RecordD) (A3 : Option Addr) (n3 c3 : Nat)
    (h : StateAt S w b off e cs A n cap s) (hk : r.kind = 2) (x1 : 64 ≤ n) :
    Calls Try.prog 37 #[.pointer (some ⟨b, off, none⟩), .agg #[.int .i64 r.kind, .int .i64 r.a, .int .i64 r.b, .slice A3 n3 c3]] w fun e1 w' =>
      Ends e1 (.bool false) (Below w.heap.size w w') := by
  obtain ⟨p0, p1, p2, p3, p4, pf, hlb⟩ := h.cells
  have hle := h.log.le
  have hb1 : (r.kind == 1) = false := by simp [hk]
  have hb2 : (r.kind == 2) = true := by simp [hk]
  have hb3 : (r.kind == 3) = false := by simp [hk]
  have hb4 : (r.kind == 4) = false := by simp [hk]
  have hb5 : (r.kind == 5) = false := by simp [hk]
  have x1d : decide ((n : Int) < 64) = false := decide_eq_false (by omega)
  clear hk
  go_enter Try.func37, Try.ntmps37
  go_wp2
  repeat (go_quiet (fail); go_wp2)
  go_ret
  exact ⟨rfl, below_drewN (below1 _ _) _⟩

set_option maxHeartbeats 1000000 in
theorem apply_f3a {S : Nat → Prop} {w : World} {b off : Nat} {e : TypeId} {cs : Array Value} {A : Option Addr} {n cap : Nat} {s : StateD} (r : RecordD) (A3 : Option Addr) (n3 c3 : Nat)
    (h : StateAt S w b off e cs A n cap s) (hk : r.kind = 3) (x1 : r.a < s.commit) :
    Calls Try.prog 37 #[.pointer (some ⟨b, off, none⟩), .agg #[.int .i64 r.kind, .int .i64 r.a, .int .i64 r.b, .slice A3 n3 c3]] w fun e1 w' =>
      Ends e1 (.bool false) (Below w.heap.size w w') := by
  obtain ⟨p0, p1, p2, p3, p4, pf, hlb⟩ := h.cells
  have hle := h.log.le
  have hb1 : (r.kind == 1) = false := by simp [hk]
  have hb2 : (r.kind == 2) = false := by simp [hk]
  have hb3 : (r.kind == 3) = true := by simp [hk]
  have hb4 : (r.kind == 4) = false := by simp [hk]
  have hb5 : (r.kind == 5) = false := by simp [hk]
  have x1d : decide (s.commit ≤ r.a) = false := decide_eq_false (by omega)
  clear hk
  go_enter Try.func37, Try.ntmps37
  go_wp2
  repeat (go_quiet (fail); go_wp2)
  go_ret
  exact ⟨rfl, below_drewN (below1 _ _) _⟩

set_option maxHeartbeats 1000000 in
theorem apply_f3b {S : Nat → Prop} {w : World} {b off : Nat} {e : TypeId} {cs : Array Value} {A : Option Addr} {n cap : Nat} {s : StateD} (r : RecordD) (A3 : Option Addr) (n3 c3 : Nat)
    (h : StateAt S w b off e cs A n cap s) (hk : r.kind = 3) (x1 : s.commit ≤ r.a) (x2 : (n : Int) < r.a) :
    Calls Try.prog 37 #[.pointer (some ⟨b, off, none⟩), .agg #[.int .i64 r.kind, .int .i64 r.a, .int .i64 r.b, .slice A3 n3 c3]] w fun e1 w' =>
      Ends e1 (.bool false) (Below w.heap.size w w') := by
  obtain ⟨p0, p1, p2, p3, p4, pf, hlb⟩ := h.cells
  have hle := h.log.le
  have hb1 : (r.kind == 1) = false := by simp [hk]
  have hb2 : (r.kind == 2) = false := by simp [hk]
  have hb3 : (r.kind == 3) = true := by simp [hk]
  have hb4 : (r.kind == 4) = false := by simp [hk]
  have hb5 : (r.kind == 5) = false := by simp [hk]
  have x2d : decide (r.a ≤ (n : Int)) = false := decide_eq_false (by omega)
  clear hk
  go_enter Try.func37, Try.ntmps37
  go_wp2
  repeat (go_quiet (fail); go_wp2)
  go_ret
  exact ⟨rfl, below_drewN (below1 _ _) _⟩

set_option maxHeartbeats 1000000 in
theorem apply_f4a {S : Nat → Prop} {w : World} {b off : Nat} {e : TypeId} {cs : Array Value} {A : Option Addr} {n cap : Nat} {s : StateD} (r : RecordD) (A3 : Option Addr) (n3 c3 : Nat)
    (h : StateAt S w b off e cs A n cap s) (hk : r.kind = 4) (x1 : r.a < s.commit) :
    Calls Try.prog 37 #[.pointer (some ⟨b, off, none⟩), .agg #[.int .i64 r.kind, .int .i64 r.a, .int .i64 r.b, .slice A3 n3 c3]] w fun e1 w' =>
      Ends e1 (.bool false) (Below w.heap.size w w') := by
  obtain ⟨p0, p1, p2, p3, p4, pf, hlb⟩ := h.cells
  have hle := h.log.le
  have hb1 : (r.kind == 1) = false := by simp [hk]
  have hb2 : (r.kind == 2) = false := by simp [hk]
  have hb3 : (r.kind == 3) = false := by simp [hk]
  have hb4 : (r.kind == 4) = true := by simp [hk]
  have hb5 : (r.kind == 5) = false := by simp [hk]
  have x1d : decide (s.commit ≤ r.a) = false := decide_eq_false (by omega)
  clear hk
  go_enter Try.func37, Try.ntmps37
  go_wp2
  repeat (go_quiet (fail); go_wp2)
  go_ret
  exact ⟨rfl, below_drewN (below1 _ _) _⟩

set_option maxHeartbeats 1000000 in
theorem apply_f4b {S : Nat → Prop} {w : World} {b off : Nat} {e : TypeId} {cs : Array Value} {A : Option Addr} {n cap : Nat} {s : StateD} (r : RecordD) (A3 : Option Addr) (n3 c3 : Nat)
    (h : StateAt S w b off e cs A n cap s) (hk : r.kind = 4) (x1 : s.commit ≤ r.a) (x2 : (n : Int) < r.a) :
    Calls Try.prog 37 #[.pointer (some ⟨b, off, none⟩), .agg #[.int .i64 r.kind, .int .i64 r.a, .int .i64 r.b, .slice A3 n3 c3]] w fun e1 w' =>
      Ends e1 (.bool false) (Below w.heap.size w w') := by
  obtain ⟨p0, p1, p2, p3, p4, pf, hlb⟩ := h.cells
  have hle := h.log.le
  have hb1 : (r.kind == 1) = false := by simp [hk]
  have hb2 : (r.kind == 2) = false := by simp [hk]
  have hb3 : (r.kind == 3) = false := by simp [hk]
  have hb4 : (r.kind == 4) = true := by simp [hk]
  have hb5 : (r.kind == 5) = false := by simp [hk]
  have x2d : decide (r.a ≤ (n : Int)) = false := decide_eq_false (by omega)
  clear hk
  go_enter Try.func37, Try.ntmps37
  go_wp2
  repeat (go_quiet (fail); go_wp2)
  go_ret
  exact ⟨rfl, below_drewN (below1 _ _) _⟩

set_option maxHeartbeats 1000000 in
theorem apply_f5 {S : Nat → Prop} {w : World} {b off : Nat} {e : TypeId} {cs : Array Value} {A : Option Addr} {n cap : Nat} {s : StateD} (r : RecordD) (A3 : Option Addr) (n3 c3 : Nat)
    (h : StateAt S w b off e cs A n cap s) (hk : r.kind = 5) (x1 : 64 < r.a) :
    Calls Try.prog 37 #[.pointer (some ⟨b, off, none⟩), .agg #[.int .i64 r.kind, .int .i64 r.a, .int .i64 r.b, .slice A3 n3 c3]] w fun e1 w' =>
      Ends e1 (.bool false) (Below w.heap.size w w') := by
  obtain ⟨p0, p1, p2, p3, p4, pf, hlb⟩ := h.cells
  have hle := h.log.le
  have hb1 : (r.kind == 1) = false := by simp [hk]
  have hb2 : (r.kind == 2) = false := by simp [hk]
  have hb3 : (r.kind == 3) = false := by simp [hk]
  have hb4 : (r.kind == 4) = false := by simp [hk]
  have hb5 : (r.kind == 5) = true := by simp [hk]
  have x1d : decide (r.a ≤ 64) = false := decide_eq_false (by omega)
  clear hk
  go_enter Try.func37, Try.ntmps37
  go_wp2
  repeat (go_quiet (fail); go_wp2)
  go_ret
  exact ⟨rfl, below_drewN (below1 _ _) _⟩

theorem Applied.mono {S S' : Nat → Prop} {w w' : World} {b off : Nat} {e : TypeId} {cs : Array Value} {s' : StateD} (h : Applied S w b off e cs s' w') (hS : ∀ k, S k → S' k) : Applied S' w b off e cs s' w' := by
  obtain ⟨cs', A', n', c', h1, h2, h3⟩ := h
  exact ⟨cs', A', n', c', ⟨h1.heap, h1.c0, h1.c1, h1.c2, h1.c3, h1.c4, h1.log.mono hS⟩, h2, h3⟩
/-- What a call of apply ends in. -/
def ApplyEnds (S : Nat → Prop) (w : World) (b off : Nat) (e : TypeId) (cs : Array Value) (o : Option StateD) (e1 : Ending) (w' : World) : Prop :=
  match o with
  | some s' => Ends e1 (.bool true) (Applied S w b off e cs s' w')
  | none => Ends e1 (.bool false) (Below w.heap.size w w')

theorem smallE_of_right {x : EntryD} (h : entryRight x = true) : SmallE x := by
  rw [entryRight_split x rfl rfl] at h
  simp only [Bool.and_eq_true, decide_eq_true_eq] at h
  exact ⟨by omega, by omega⟩
theorem small_of_all {l : List EntryD} (h : l.all entryRight = true) : ∀ x ∈ l, SmallE x := fun x hx => smallE_of_right (List.all_eq_true.1 h x hx)

/-- ledger.State.apply, of a right record -/
theorem apply_any {S S3 : Nat → Prop} {w : World} {b off : Nat} {e : TypeId} {cs : Array Value} {A : Option Addr} {n cap : Nat} {s : StateD} (r : RecordD) (A3 : Option Addr) (n3 c3 : Nat)
    (h : StateAt S w b off e cs A n cap s) (hS : ∀ k, S k → k ≠ b) (h3 : Sl EntryK S3 w A3 n3 c3 r.log) (hr : recordRight r = true) :
    Calls Try.prog 37 #[.pointer (some ⟨b, off, none⟩), .agg #[.int .i64 r.kind, .int .i64 r.a, .int .i64 r.b, .slice A3 n3 c3]] w
      (ApplyEnds (fun k => S k ∨ New w k) w b off e cs (applyS s r)) := by
  have hl := h.log.hl
  have hn : 1 ≤ r.kind ∧ r.kind ≤ 5 ∧ 0 ≤ r.a := by
    rw [recordRight, recordNums] at hr
    simp only [Bool.and_eq_true, decide_eq_true_eq, num] at hr
    exact ⟨hr.1.1.1.1, hr.1.1.1.2, hr.1.1.2.1⟩
  have hin : ∀ k, S k → S k ∨ New w k := fun _ => .inl
  by_cases k1 : r.kind = 1
  · by_cases x1 : s.view ≤ r.a
    · by_cases x2 : s.normal ≤ r.b
      · by_cases x3 : r.b ≤ r.a
        · rw [applyS, if_pos k1, if_pos ⟨x1, x2, x3⟩]
          exact (apply_k1 r A3 n3 c3 h hS k1 ⟨x1, x2, x3⟩).mono fun _ _ hh => ⟨hh.1, hh.2.mono hin⟩
        · rw [applyS, if_pos k1, if_neg (fun hh => x3 hh.2.2)]
          exact apply_f1c r A3 n3 c3 h k1 x1 x2 (by omega)
      · rw [applyS, if_pos k1, if_neg (fun hh => x2 hh.2.1)]
        exact apply_f1b r A3 n3 c3 h k1 x1 (by omega)
    · rw [applyS, if_pos k1, if_neg (fun hh => x1 hh.1)]
      exact apply_f1a r A3 n3 c3 h k1 (by omega)
  by_cases k2 : r.kind = 2
  · have hlg : logged r.log 1 1 = true := by
      rw [recordRight, if_pos k2, Bool.and_eq_true] at hr
      exact hr.2
    simp only [logged, Bool.and_eq_true, decide_eq_true_eq] at hlg
    have hl3 := h3.hl
    by_cases x1 : n < 64
    · rw [applyS, if_neg k1, if_pos k2, if_pos (by omega)]
      exact apply_k2 r A3 n3 c3 h hS k2 x1 h3 (by omega) (by omega) (small_of_all hlg.2)
    · rw [applyS, if_neg k1, if_pos k2, if_neg (by omega)]
      exact apply_f2 r A3 n3 c3 h k2 (by omega)
  by_cases k3 : r.kind = 3
  · by_cases x1 : s.commit ≤ r.a
    · by_cases x2 : r.a ≤ (s.log.length : Int)
      · rw [applyS, if_neg k1, if_neg k2, if_pos k3, if_pos ⟨x1, x2⟩]
        exact (apply_k3 r A3 n3 c3 h hS k3 r.a.toNat (by omega) (by omega) (by omega)).mono fun _ _ hh => ⟨hh.1, hh.2.mono hin⟩
      · rw [applyS, if_neg k1, if_neg k2, if_pos k3, if_neg (fun hh => x2 hh.2)]
        exact apply_f3b r A3 n3 c3 h k3 x1 (by omega)
    · rw [applyS, if_neg k1, if_neg k2, if_pos k3, if_neg (fun hh => x1 hh.1)]
      exact apply_f3a r A3 n3 c3 h k3 (by omega)
  by_cases k4 : r.kind = 4
  · by_cases x1 : s.commit ≤ r.a
    · by_cases x2 : r.a ≤ (s.log.length : Int)
      · rw [applyS, if_neg k1, if_neg k2, if_neg k3, if_pos k4, if_pos ⟨x1, x2⟩]
        exact (apply_k4 r A3 n3 c3 h hS k4 ⟨x1, by omega⟩).mono fun _ _ hh => ⟨hh.1, hh.2.mono hin⟩
      · rw [applyS, if_neg k1, if_neg k2, if_neg k3, if_pos k4, if_neg (fun hh => x2 hh.2)]
        exact apply_f4b r A3 n3 c3 h k4 x1 (by omega)
    · rw [applyS, if_neg k1, if_neg k2, if_neg k3, if_pos k4, if_neg (fun hh => x1 hh.1)]
      exact apply_f4a r A3 n3 c3 h k4 (by omega)
  have k5 : r.kind = 5 := by omega
  by_cases x1 : r.a ≤ 64
  · rw [applyS, if_neg k1, if_neg k2, if_neg k3, if_neg k4, if_pos k5, if_pos x1]
    exact (apply_k5 r A3 n3 c3 h hS k5 x1).mono fun _ _ hh => ⟨hh.1, hh.2.mono hin⟩
  · rw [applyS, if_neg k1, if_neg k2, if_neg k3, if_neg k4, if_pos k5, if_neg x1]
    exact apply_f5 r A3 n3 c3 h k5 (by omega)
end Go.Proofs.Ytlgdiloddphgnaa
