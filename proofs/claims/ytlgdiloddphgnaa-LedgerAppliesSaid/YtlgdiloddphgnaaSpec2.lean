/- A record applied to a state, as plain Lean; what a call through a pointer may change. -/
import Derived.Test.YtlgdiloddphgnaaSpec
import Derived.Test.YtlgdiloddphgnaaOwn
namespace Go.Proofs.Ytlgdiloddphgnaa
open Go.RowKit

/-- What a record makes of a state; none: it can't be applied. -/
def applyS (s : StateD) (r : RecordD) : Option StateD :=
  if r.kind = 1 then (if s.view ≤ r.a ∧ s.normal ≤ r.b ∧ r.b ≤ r.a then some { s with view := r.a, normal := r.b } else none)
  else if r.kind = 2 then (if (s.log.length : Int) < 64 then some { s with log := s.log ++ r.log } else none)
  else if r.kind = 3 then (if s.commit ≤ r.a ∧ r.a ≤ (s.log.length : Int) then some { s with log := s.log.take r.a.toNat } else none)
  else if r.kind = 4 then (if s.commit ≤ r.a ∧ r.a ≤ (s.log.length : Int) then some { s with commit := r.a } else none)
  else if r.kind = 5 then (if r.a ≤ 64 then some { s with active := r.a } else none)
  else none

/-- Of the blocks that were there only block b may have changed. -/
structure Tch (b : Nat) (w w' : World) : Prop where
  os : w'.os = w.os
  tape : w'.tape = w.tape
  output : w'.output = w.output
  size : w.heap.size ≤ w'.heap.size
  block : ∀ k, k < w.heap.size → k ≠ b → w'.heap[k]? = w.heap[k]?

theorem Tch.refl (b : Nat) (w : World) : Tch b w w := ⟨rfl, rfl, rfl, Nat.le_refl _, fun _ _ _ => rfl⟩
theorem Tch.trans {b : Nat} {w w1 w2 : World} (h : Tch b w w1) (k : Tch b w1 w2) : Tch b w w2 :=
  ⟨k.os.trans h.os, k.tape.trans h.tape, k.output.trans h.output, Nat.le_trans h.size k.size, fun i hi hb => (k.block i (Nat.lt_of_lt_of_le hi h.size) hb).trans (h.block i hi hb)⟩
theorem Tch.of_below {b : Nat} {w w1 : World} (h : Below w.heap.size w w1) : Tch b w w1 := ⟨h.os, h.tape, h.output, h.size, fun k hk _ => h.block k hk⟩
theorem Tch.below {b : Nat} {w w1 w2 : World} (h : Tch b w w1) (k : Below w1.heap.size w1 w2) : Tch b w w2 := h.trans (Tch.of_below k)
theorem Tch.setCell {b : Nat} {w w1 : World} (h : Tch b w w1) (j : Nat) (u : Value) : Tch b w (w1.setCell ⟨b, j, none⟩ u) :=
  h.trans ⟨rfl, rfl, rfl, by simp [World.setCell], fun k _ hk => Below.heap_setCell _ _ _ _ hk⟩
theorem Tch.drewN {b : Nat} {w w1 : World} (h : Tch b w w1) (n : Nat) : Tch b w (w1.drewN n) := h.trans ⟨rfl, rfl, rfl, Nat.le_refl _, fun _ _ _ => rfl⟩
theorem Tch.drew {b : Nat} {w w1 : World} (h : Tch b w w1) : Tch b w w1.drew := h.trans ⟨rfl, rfl, rfl, Nat.le_refl _, fun _ _ _ => rfl⟩
theorem Tch.alloc {b : Nat} {w w1 : World} (h : Tch b w w1) (o : Obj) : Tch b w (w1.alloc o) := h.below (below1 _ _)
/-- A block that the call itself made is none of the old ones. -/
theorem Tch.new {b : Nat} {w w1 : World} (h : Tch b w w1) (hb : w.heap.size ≤ b) : Below w.heap.size w w1 :=
  ⟨h.os, h.tape, h.output, h.size, fun k hk => h.block k hk (by omega)⟩

/-- A state in memory: five cells in a block. -/
structure StateAt (S : Nat → Prop) (w : World) (b off : Nat) (e : TypeId) (cs : Array Value) (A : Option Addr) (n cap : Nat) (s : StateD) : Prop where
  heap : w.heap[b]? = some (.cells cs e (0, 0))
  c0 : cs[off]? = some (.int .i64 s.view)
  c1 : cs[off + 1]? = some (.int .i64 s.normal)
  c2 : cs[off + 2]? = some (.int .i64 s.commit)
  c3 : cs[off + 3]? = some (.int .i64 s.active)
  c4 : cs[off + 4]? = some (.slice A n cap)
  log : Sl EntryK S w A n cap s.log

theorem StateAt.cells {S : Nat → Prop} {w : World} {b off : Nat} {e : TypeId} {cs : Array Value} {A : Option Addr} {n cap : Nat} {s : StateD} (h : StateAt S w b off e cs A n cap s) :
    w.cell? ⟨b, off, none⟩ = some (.int .i64 s.view) ∧ w.cell? ⟨b, off + 1, none⟩ = some (.int .i64 s.normal) ∧ w.cell? ⟨b, off + 2, none⟩ = some (.int .i64 s.commit) ∧ w.cell? ⟨b, off + 3, none⟩ = some (.int .i64 s.active) ∧ w.cell? ⟨b, off + 4, none⟩ = some (.slice A n cap) ∧ (∀ j, w.frozen? ⟨b, j, none⟩ = false) ∧ b < w.heap.size := by
  obtain ⟨h1, h2⟩ := box_facts h.heap
  exact ⟨by rw [h1, h.c0], by rw [h1, h.c1], by rw [h1, h.c2], by rw [h1, h.c3], by rw [h1, h.c4], h2, (Array.getElem?_eq_some_iff.1 h.heap).1⟩

/-- The state in that place is another one now. -/
def Applied (S : Nat → Prop) (w : World) (b off : Nat) (e : TypeId) (cs : Array Value) (s' : StateD) (w' : World) : Prop :=
  ∃ cs' A' n' c', StateAt S w' b off e cs' A' n' c' s' ∧ (∀ j, j < off ∨ off + 5 ≤ j → cs'[j]? = cs[j]?) ∧ Tch b w w'
theorem StateAt.sizes {S : Nat → Prop} {w : World} {b off : Nat} {e : TypeId} {cs : Array Value} {A : Option Addr} {n cap : Nat} {s : StateD} (h : StateAt S w b off e cs A n cap s) : off + 4 < cs.size := (Array.getElem?_eq_some_iff.1 h.c4).1
theorem Applied.mk {S : Nat → Prop} {w w' : World} {b off : Nat} {e : TypeId} {cs cs' : Array Value} {A A' : Option Addr} {n cap n' c' : Nat} {s s' : StateD} (_h : StateAt S w b off e cs A n cap s) (T : Tch b w w')
    (hh : w'.heap[b]? = some (.cells cs' e (0, 0))) (c0 : cs'[off]? = some (.int .i64 s'.view)) (c1 : cs'[off + 1]? = some (.int .i64 s'.normal)) (c2 : cs'[off + 2]? = some (.int .i64 s'.commit)) (c3 : cs'[off + 3]? = some (.int .i64 s'.active)) (c4 : cs'[off + 4]? = some (.slice A' n' c'))
    (hl : Sl EntryK S w' A' n' c' s'.log) (hj : ∀ j, j < off ∨ off + 5 ≤ j → cs'[j]? = cs[j]?) : Applied S w b off e cs s' w' :=
  ⟨cs', A', n', c', ⟨hh, c0, c1, c2, c3, c4, hl⟩, hj, T⟩
theorem Sl.tch {α : Type} {d : Kn α} {S : Nat → Prop} {w w' : World} {b : Nat} {A : Option Addr} {n cap : Nat} {xs : List α} (h : Sl d S w A n cap xs) (T : Tch b w w') (hS : ∀ k, S k → k ≠ b) : Sl d S w' A n cap xs :=
  h.keep fun k hk hlt => ⟨T.block k hlt (hS k hk), hk⟩
/-- The call's end, for the walk. -/
def Ends (e : Ending) (v : Value) (P : Prop) : Prop := e = .returned v ∧ P
theorem drewN_heap (w : World) (n : Nat) : (w.drewN n).heap = w.heap := rfl
theorem drew_heap (w : World) : w.drew.heap = w.heap := rfl
theorem alloc_heap {w : World} {b : Nat} {o x : Obj} (h : w.heap[b]? = some o) : (w.alloc x).heap[b]? = some o :=
  (Below.heap_alloc _ _ _ (Array.getElem?_eq_some_iff.1 h).1).trans h
end Go.Proofs.Ytlgdiloddphgnaa
