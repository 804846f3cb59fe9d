/- The words that the proofs of this seat share: how a list of structs lies in memory (kinds), what a call may have changed. Plain definitions and lemmas; no program in sight. -/
import Derived.WalkKit
import Derived.LoopTactic
import Derived.Deep.RegionHeld3
import Derived.Deep.QuietTactic
import Derived.BigQuiet
import Derived.Deep.AppendSrc
import Derived.Lib.Hide
import Derived.WalkSpells
import Derived.WalkLawsBesides
namespace Go.Proofs.Ytlgdiloddphgnaa
open Go.RowKit

/-- A kind of data: how many cells, and what the cells say; S: the blocks in which what they point to lies. -/
structure Kn (α : Type) where
  sz : Nat
  pos : 0 < sz
  R : (Nat → Prop) → World → List Value → α → Prop
  len : ∀ {S : Nat → Prop} {w : World} {cs : List Value} {x : α}, R S w cs x → cs.length = sz
  one : ∀ {S : Nat → Prop} {w : World} {cs : List Value} {x : α}, R S w cs x → ∀ u ∈ cs, u.oneCell' = true
  keep : ∀ {S S' : Nat → Prop} {w w' : World} {cs : List Value} {x : α}, R S w cs x → (∀ k, S k → k < w.heap.size → w'.heap[k]? = w.heap[k]? ∧ S' k) → R S' w' cs x

/-- The elements of a slice at an address. -/
def Row {α : Type} (d : Kn α) (S : Nat → Prop) (w : World) (A : Option Addr) (xs : List α) : Prop :=
  ∀ (i : Nat) (x : α), xs[i]? = some x → ∃ b off c, A = some ⟨b, off, none⟩ ∧ S b ∧ d.R S w c x ∧ ∀ (j : Nat) (u : Value), c[j]? = some u → w.cell? ⟨b, off + i * d.sz + j, none⟩ = some u

/-- A slice value that reads as a list. -/
structure Sl {α : Type} (d : Kn α) (S : Nat → Prop) (w : World) (A : Option Addr) (n cap : Nat) (xs : List α) : Prop where
  hl : xs.length = n
  hc : n ≤ cap
  hm : cap ≤ 9223372036854775807
  row : Row d S w A xs

theorem Row.keep {α : Type} {d : Kn α} {S S' : Nat → Prop} {w w' : World} {A : Option Addr} {xs : List α} (h : Row d S w A xs)
    (hk : ∀ k, S k → k < w.heap.size → w'.heap[k]? = w.heap[k]? ∧ S' k) : Row d S' w' A xs := by
  intro i x hi
  obtain ⟨b, off, c, hA, hS, hR, hc⟩ := h i x hi
  have hlt : b < w.heap.size := by
    have hl := d.len hR
    have hp := d.pos
    have h0 : c[0]? = some (c[0]'(by omega)) := List.getElem?_eq_getElem (by omega)
    exact World.block_lt_of_cell? w _ (hc 0 _ h0)
  have hb := hk b hS hlt
  exact ⟨b, off, c, hA, hb.2, d.keep hR hk, fun j u hu => by
    rw [World.cell?_of_block (w := w) (w' := w') (by exact hb.1)]
    exact hc j u hu⟩

theorem Sl.keep {α : Type} {d : Kn α} {S S' : Nat → Prop} {w w' : World} {A : Option Addr} {n cap : Nat} {xs : List α} (h : Sl d S w A n cap xs)
    (hk : ∀ k, S k → k < w.heap.size → w'.heap[k]? = w.heap[k]? ∧ S' k) : Sl d S' w' A n cap xs :=
  ⟨h.hl, h.hc, h.hm, h.row.keep hk⟩
theorem Sl.below {α : Type} {d : Kn α} {S : Nat → Prop} {w w' : World} {A : Option Addr} {n cap : Nat} {xs : List α} (h : Sl d S w A n cap xs) (hb : Below w.heap.size w w') : Sl d S w' A n cap xs :=
  h.keep fun k hS hk => ⟨hb.block k hk, hS⟩
theorem Kn.below {α : Type} (d : Kn α) {S : Nat → Prop} {w w' : World} {cs : List Value} {x : α} (h : d.R S w cs x) (hb : Below w.heap.size w w') : d.R S w' cs x :=
  d.keep h fun k hS hk => ⟨hb.block k hk, hS⟩
theorem Sl.mono {α : Type} {d : Kn α} {S S' : Nat → Prop} {w : World} {A : Option Addr} {n cap : Nat} {xs : List α} (h : Sl d S w A n cap xs) (hS : ∀ k, S k → S' k) : Sl d S' w A n cap xs :=
  h.keep fun k hk _ => ⟨rfl, hS k hk⟩
theorem Sl.bound {α : Type} {d : Kn α} {S : Nat → Prop} {w : World} {A : Option Addr} {n cap : Nat} {xs : List α} (h : Sl d S w A n cap xs) : Sl d (fun k => S k ∧ k < w.heap.size) w A n cap xs :=
  h.keep fun _ hk hl => ⟨rfl, hk, hl⟩
theorem Sl.nil {α : Type} (d : Kn α) (S : Nat → Prop) (w : World) (A : Option Addr) (cap : Nat) (hc : cap ≤ 9223372036854775807) : Sl d S w A 0 cap [] :=
  ⟨rfl, Nat.zero_le _, hc, fun i x h => by simp at h⟩
theorem Sl.le {α : Type} {d : Kn α} {S : Nat → Prop} {w : World} {A : Option Addr} {n cap : Nat} {xs : List α} (h : Sl d S w A n cap xs) : n ≤ 9223372036854775807 := Nat.le_trans h.hc h.hm

/-- The element at a place. -/
theorem Sl.at_ {α : Type} {d : Kn α} {S : Nat → Prop} {w : World} {A : Option Addr} {n cap : Nat} {xs : List α} (h : Sl d S w A n cap xs) (i : Nat) (hi : i < n) :
    ∃ b off c, A = some ⟨b, off, none⟩ ∧ S b ∧ d.R S w c (xs[i]'(by have := h.hl; omega)) ∧ ∀ (j : Nat) (u : Value), c[j]? = some u → w.cell? ⟨b, off + i * d.sz + j, none⟩ = some u := by
  have hl : i < xs.length := by have := h.hl; omega
  exact h.row i _ (List.getElem?_eq_getElem hl)

/-- Whole numbers, bools, strings. -/
def Kn.scalar {α : Type} (enc : α → Value) (h1 : ∀ x, (enc x).oneCell' = true) : Kn α where
  sz := 1
  pos := Nat.one_pos
  R := fun _ _ cs x => cs = [enc x]
  len := fun h => by rw [h]; rfl
  one := fun h u hu => by
    rw [h] at hu
    rw [List.mem_singleton.1 hu]
    exact h1 _
  keep := fun h _ => h
def Kn.int : Kn Int := Kn.scalar (Value.int .i64) (fun _ => rfl)
def Kn.u8 : Kn Int := Kn.scalar (Value.int .u8) (fun _ => rfl)
def Kn.bool : Kn Bool := Kn.scalar Value.bool (fun _ => rfl)
def Kn.str : Kn ByteArray := Kn.scalar Value.string (fun _ => rfl)

/-- The cell of a one-cell element. -/
theorem Sl.cell {α : Type} {enc : α → Value} {h1 : ∀ x, (enc x).oneCell' = true} {S : Nat → Prop} {w : World} {A : Option Addr} {n cap : Nat} {xs : List α} (h : Sl (Kn.scalar enc h1) S w A n cap xs) (i : Nat) (hi : i < n) :
    ∃ b off, A = some ⟨b, off, none⟩ ∧ S b ∧ w.cell? ⟨b, off + i, none⟩ = some (enc (xs[i]'(by have := h.hl; omega))) := by
  obtain ⟨b, off, c, hA, hS, hR, hc⟩ := h.at_ i hi
  have hR' : c = [enc (xs[i]'(by have := h.hl; omega))] := hR
  subst hR'
  have h0 := hc 0 _ rfl
  have e : off + i * (Kn.scalar enc h1).sz + 0 = off + i := by show off + i * 1 + 0 = off + i; omega
  rw [e] at h0
  exact ⟨b, off, hA, hS, h0⟩

theorem Row.cons_keep {α : Type} {d : Kn α} {S : Nat → Prop} {w : World} {A : Option Addr} {xs : List α} (h : Row d S w A xs) (k : Nat) : Row d S w A (xs.take k) := by
  intro i x hi
  rw [List.getElem?_take] at hi
  split at hi
  · exact h i x hi
  · cases hi
/-- A beginning of a slice. -/
theorem Sl.take {α : Type} {d : Kn α} {S : Nat → Prop} {w : World} {A : Option Addr} {n cap : Nat} {xs : List α} (h : Sl d S w A n cap xs) (k : Nat) (hk : k ≤ n) : Sl d S w A k cap (xs.take k) :=
  ⟨by have := h.hl; rw [List.length_take]; omega, by have := h.hc; omega, h.hm, h.row.cons_keep k⟩

/-- What was made behind a world. -/
abbrev New (w : World) : Nat → Prop := fun k => w.heap.size ≤ k

/-- Behind a call that changes nothing that was there: every old cell reads as it did. -/
theorem bcell {W w1 : World} (hb : Below W.heap.size W w1) : (∀ b o, b < W.heap.size → w1.cell? ⟨b, o, none⟩ = W.cell? ⟨b, o, none⟩) ∧ (∀ b o, b < W.heap.size → w1.frozen? ⟨b, o, none⟩ = W.frozen? ⟨b, o, none⟩) :=
  ⟨fun b o h => hb.cell (p := ⟨b, o, none⟩) h, fun b o h => hb.frozen (p := ⟨b, o, none⟩) h⟩
theorem cellb {W w1 : World} (hb : Below W.heap.size W w1) {a : Addr} {v : Value} (h : W.cell? a = some v) : w1.cell? a = some v :=
  (hb.cell (World.block_lt_of_cell? W a h)).trans h

theorem below1 (w : World) (a : Obj) : Below w.heap.size w (w.alloc a) := (Below.refl _ _).alloc (Nat.le_refl _) _
theorem below2 (w : World) (a b : Obj) : Below w.heap.size w ((w.alloc a).alloc b) := (below1 w a).alloc (by simp) _
theorem below3 (w : World) (a b c : Obj) : Below w.heap.size w (((w.alloc a).alloc b).alloc c) := (below2 w a b).alloc (by simp; omega) _
/-- Two steps that change nothing that was there. -/
theorem bt {w w1 w2 : World} (h : Below w.heap.size w w1) (k : Below w1.heap.size w1 w2) : Below w.heap.size w w2 := h.trans (k.mono h.size)

end Go.Proofs.Ytlgdiloddphgnaa
