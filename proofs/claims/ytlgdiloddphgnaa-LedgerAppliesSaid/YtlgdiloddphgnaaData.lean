/- The structs of the program as data, and how their cells read. Printed by a program of this repo (gendata.py). -/
import Derived.Test.YtlgdiloddphgnaaBase
namespace Go.Proofs.Ytlgdiloddphgnaa
open Go.RowKit

structure RuleD where
  id : Int
  pri : Int
  act : Int
  sco : Int
  pat : ByteArray
def RuleK : Kn RuleD where
  sz := 5
  pos := by decide
  R := fun S w cs x => cs = ([.int .i64 x.id, .int .i64 x.pri, .int .i64 x.act, .int .i64 x.sco, .string x.pat] : List Value)
  len := by
    rintro S w cs x rfl
    rfl
  one := by
    rintro S w cs x rfl u hu
    simp only [List.mem_cons, List.not_mem_nil, or_false] at hu
    rcases hu with rfl | rfl | rfl | rfl | rfl <;> rfl
  keep := fun h _ => h
theorem RuleK.at_ {S : Nat → Prop} {w : World} {A : Option Addr} {n cap : Nat} {xs : List RuleD} (h : Sl RuleK S w A n cap xs) (i : Nat) (hi : i < n) :
    ∃ e b off, xs[i]? = some e ∧ A = some ⟨b, off, none⟩ ∧ S b ∧ b < w.heap.size ∧ w.cell? ⟨b, off + i * 5, none⟩ = some (.int .i64 e.id) ∧ w.cell? ⟨b, off + i * 5 + 1, none⟩ = some (.int .i64 e.pri) ∧ w.cell? ⟨b, off + i * 5 + 2, none⟩ = some (.int .i64 e.act) ∧ w.cell? ⟨b, off + i * 5 + 3, none⟩ = some (.int .i64 e.sco) ∧ w.cell? ⟨b, off + i * 5 + 4, none⟩ = some (.string e.pat) := by
  obtain ⟨b, off, c, hA, hS, hR, hc⟩ := h.at_ i hi
  obtain rfl := hR
  refine ⟨_, b, off, List.getElem?_eq_getElem _, hA, hS, World.block_lt_of_cell? w _ (hc 0 _ rfl), hc 0 _ rfl, hc 1 _ rfl, hc 2 _ rfl, hc 3 _ rfl, hc 4 _ rfl⟩

structure DeltaD where
  dflt : Int
  closed : Int
  fuel : Int
  stack : Int
  put : List RuleD
  drop : List Int
def DeltaK : Kn DeltaD where
  sz := 6
  pos := by decide
  R := fun S w cs x => ∃ A4 n4 c4 A5 n5 c5, cs = ([.int .i64 x.dflt, .int .i64 x.closed, .int .i64 x.fuel, .int .i64 x.stack, .slice A4 n4 c4, .slice A5 n5 c5] : List Value) ∧ Sl RuleK S w A4 n4 c4 x.put ∧ Sl Kn.int S w A5 n5 c5 x.drop
  len := by
    rintro S w cs x ⟨_, _, _, _, _, _, rfl, _, _⟩
    rfl
  one := by
    rintro S w cs x ⟨_, _, _, _, _, _, rfl, _, _⟩ u hu
    simp only [List.mem_cons, List.not_mem_nil, or_false] at hu
    rcases hu with rfl | rfl | rfl | rfl | rfl | rfl <;> rfl
  keep := by
    rintro S S' w w' cs x ⟨A4, n4, c4, A5, n5, c5, rfl, h4, h5⟩ hk
    exact ⟨A4, n4, c4, A5, n5, c5, rfl, h4.keep hk, h5.keep hk⟩
theorem DeltaK.at_ {S : Nat → Prop} {w : World} {A : Option Addr} {n cap : Nat} {xs : List DeltaD} (h : Sl DeltaK S w A n cap xs) (i : Nat) (hi : i < n) :
    ∃ e b off A4 n4 c4 A5 n5 c5, xs[i]? = some e ∧ A = some ⟨b, off, none⟩ ∧ S b ∧ b < w.heap.size ∧ w.cell? ⟨b, off + i * 6, none⟩ = some (.int .i64 e.dflt) ∧ w.cell? ⟨b, off + i * 6 + 1, none⟩ = some (.int .i64 e.closed) ∧ w.cell? ⟨b, off + i * 6 + 2, none⟩ = some (.int .i64 e.fuel) ∧ w.cell? ⟨b, off + i * 6 + 3, none⟩ = some (.int .i64 e.stack) ∧ w.cell? ⟨b, off + i * 6 + 4, none⟩ = some (.slice A4 n4 c4) ∧ w.cell? ⟨b, off + i * 6 + 5, none⟩ = some (.slice A5 n5 c5) ∧ Sl RuleK S w A4 n4 c4 e.put ∧ Sl Kn.int S w A5 n5 c5 e.drop := by
  obtain ⟨b, off, c, hA, hS, hR, hc⟩ := h.at_ i hi
  obtain ⟨A4, n4, c4, A5, n5, c5, rfl, h4, h5⟩ := hR
  refine ⟨_, b, off, A4, n4, c4, A5, n5, c5, List.getElem?_eq_getElem _, hA, hS, World.block_lt_of_cell? w _ (hc 0 _ rfl), hc 0 _ rfl, hc 1 _ rfl, hc 2 _ rfl, hc 3 _ rfl, hc 4 _ rfl, hc 5 _ rfl, h4, h5⟩

structure EntryD where
  view : Int
  client : Int
  request : Int
  delta : DeltaD
def EntryK : Kn EntryD where
  sz := 9
  pos := by decide
  R := fun S w cs x => ∃ A7 n7 c7 A8 n8 c8, cs = ([.int .i64 x.view, .int .i64 x.client, .int .i64 x.request, .int .i64 x.delta.dflt, .int .i64 x.delta.closed, .int .i64 x.delta.fuel, .int .i64 x.delta.stack, .slice A7 n7 c7, .slice A8 n8 c8] : List Value) ∧ Sl RuleK S w A7 n7 c7 x.delta.put ∧ Sl Kn.int S w A8 n8 c8 x.delta.drop
  len := by
    rintro S w cs x ⟨_, _, _, _, _, _, rfl, _, _⟩
    rfl
  one := by
    rintro S w cs x ⟨_, _, _, _, _, _, rfl, _, _⟩ u hu
    simp only [List.mem_cons, List.not_mem_nil, or_false] at hu
    rcases hu with rfl | rfl | rfl | rfl | rfl | rfl | rfl | rfl | rfl <;> rfl
  keep := by
    rintro S S' w w' cs x ⟨A7, n7, c7, A8, n8, c8, rfl, h7, h8⟩ hk
    exact ⟨A7, n7, c7, A8, n8, c8, rfl, h7.keep hk, h8.keep hk⟩
theorem EntryK.at_ {S : Nat → Prop} {w : World} {A : Option Addr} {n cap : Nat} {xs : List EntryD} (h : Sl EntryK S w A n cap xs) (i : Nat) (hi : i < n) :
    ∃ e b off A7 n7 c7 A8 n8 c8, xs[i]? = some e ∧ A = some ⟨b, off, none⟩ ∧ S b ∧ b < w.heap.size ∧ w.cell? ⟨b, off + i * 9, none⟩ = some (.int .i64 e.view) ∧ w.cell? ⟨b, off + i * 9 + 1, none⟩ = some (.int .i64 e.client) ∧ w.cell? ⟨b, off + i * 9 + 2, none⟩ = some (.int .i64 e.request) ∧ w.cell? ⟨b, off + i * 9 + 3, none⟩ = some (.int .i64 e.delta.dflt) ∧ w.cell? ⟨b, off + i * 9 + 4, none⟩ = some (.int .i64 e.delta.closed) ∧ w.cell? ⟨b, off + i * 9 + 5, none⟩ = some (.int .i64 e.delta.fuel) ∧ w.cell? ⟨b, off + i * 9 + 6, none⟩ = some (.int .i64 e.delta.stack) ∧ w.cell? ⟨b, off + i * 9 + 7, none⟩ = some (.slice A7 n7 c7) ∧ w.cell? ⟨b, off + i * 9 + 8, none⟩ = some (.slice A8 n8 c8) ∧ Sl RuleK S w A7 n7 c7 e.delta.put ∧ Sl Kn.int S w A8 n8 c8 e.delta.drop := by
  obtain ⟨b, off, c, hA, hS, hR, hc⟩ := h.at_ i hi
  obtain ⟨A7, n7, c7, A8, n8, c8, rfl, h7, h8⟩ := hR
  refine ⟨_, b, off, A7, n7, c7, A8, n8, c8, List.getElem?_eq_getElem _, hA, hS, World.block_lt_of_cell? w _ (hc 0 _ rfl), hc 0 _ rfl, hc 1 _ rfl, hc 2 _ rfl, hc 3 _ rfl, hc 4 _ rfl, hc 5 _ rfl, hc 6 _ rfl, hc 7 _ rfl, hc 8 _ rfl, h7, h8⟩

structure StateD where
  view : Int
  normal : Int
  commit : Int
  active : Int
  log : List EntryD
def StateK : Kn StateD where
  sz := 5
  pos := by decide
  R := fun S w cs x => ∃ A4 n4 c4, cs = ([.int .i64 x.view, .int .i64 x.normal, .int .i64 x.commit, .int .i64 x.active, .slice A4 n4 c4] : List Value) ∧ Sl EntryK S w A4 n4 c4 x.log
  len := by
    rintro S w cs x ⟨_, _, _, rfl, _⟩
    rfl
  one := by
    rintro S w cs x ⟨_, _, _, rfl, _⟩ u hu
    simp only [List.mem_cons, List.not_mem_nil, or_false] at hu
    rcases hu with rfl | rfl | rfl | rfl | rfl <;> rfl
  keep := by
    rintro S S' w w' cs x ⟨A4, n4, c4, rfl, h4⟩ hk
    exact ⟨A4, n4, c4, rfl, h4.keep hk⟩
theorem StateK.at_ {S : Nat → Prop} {w : World} {A : Option Addr} {n cap : Nat} {xs : List StateD} (h : Sl StateK S w A n cap xs) (i : Nat) (hi : i < n) :
    ∃ e b off A4 n4 c4, xs[i]? = some e ∧ A = some ⟨b, off, none⟩ ∧ S b ∧ b < w.heap.size ∧ w.cell? ⟨b, off + i * 5, none⟩ = some (.int .i64 e.view) ∧ w.cell? ⟨b, off + i * 5 + 1, none⟩ = some (.int .i64 e.normal) ∧ w.cell? ⟨b, off + i * 5 + 2, none⟩ = some (.int .i64 e.commit) ∧ w.cell? ⟨b, off + i * 5 + 3, none⟩ = some (.int .i64 e.active) ∧ w.cell? ⟨b, off + i * 5 + 4, none⟩ = some (.slice A4 n4 c4) ∧ Sl EntryK S w A4 n4 c4 e.log := by
  obtain ⟨b, off, c, hA, hS, hR, hc⟩ := h.at_ i hi
  obtain ⟨A4, n4, c4, rfl, h4⟩ := hR
  refine ⟨_, b, off, A4, n4, c4, List.getElem?_eq_getElem _, hA, hS, World.block_lt_of_cell? w _ (hc 0 _ rfl), hc 0 _ rfl, hc 1 _ rfl, hc 2 _ rfl, hc 3 _ rfl, hc 4 _ rfl, h4⟩

structure RecordD where
  kind : Int
  a : Int
  b : Int
  log : List EntryD
def RecordK : Kn RecordD where
  sz := 4
  pos := by decide
  R := fun S w cs x => ∃ A3 n3 c3, cs = ([.int .i64 x.kind, .int .i64 x.a, .int .i64 x.b, .slice A3 n3 c3] : List Value) ∧ Sl EntryK S w A3 n3 c3 x.log
  len := by
    rintro S w cs x ⟨_, _, _, rfl, _⟩
    rfl
  one := by
    rintro S w cs x ⟨_, _, _, rfl, _⟩ u hu
    simp only [List.mem_cons, List.not_mem_nil, or_false] at hu
    rcases hu with rfl | rfl | rfl | rfl <;> rfl
  keep := by
    rintro S S' w w' cs x ⟨A3, n3, c3, rfl, h3⟩ hk
    exact ⟨A3, n3, c3, rfl, h3.keep hk⟩
theorem RecordK.at_ {S : Nat → Prop} {w : World} {A : Option Addr} {n cap : Nat} {xs : List RecordD} (h : Sl RecordK S w A n cap xs) (i : Nat) (hi : i < n) :
    ∃ e b off A3 n3 c3, xs[i]? = some e ∧ A = some ⟨b, off, none⟩ ∧ S b ∧ b < w.heap.size ∧ w.cell? ⟨b, off + i * 4, none⟩ = some (.int .i64 e.kind) ∧ w.cell? ⟨b, off + i * 4 + 1, none⟩ = some (.int .i64 e.a) ∧ w.cell? ⟨b, off + i * 4 + 2, none⟩ = some (.int .i64 e.b) ∧ w.cell? ⟨b, off + i * 4 + 3, none⟩ = some (.slice A3 n3 c3) ∧ Sl EntryK S w A3 n3 c3 e.log := by
  obtain ⟨b, off, c, hA, hS, hR, hc⟩ := h.at_ i hi
  obtain ⟨A3, n3, c3, rfl, h3⟩ := hR
  refine ⟨_, b, off, A3, n3, c3, List.getElem?_eq_getElem _, hA, hS, World.block_lt_of_cell? w _ (hc 0 _ rfl), hc 0 _ rfl, hc 1 _ rfl, hc 2 _ rfl, hc 3 _ rfl, h3⟩

structure MessageD where
  kind : Int
  view : Int
  src : Int
  dst : Int
  op : Int
  commit : Int
  normal : Int
  log : List EntryD
def MessageK : Kn MessageD where
  sz := 8
  pos := by decide
  R := fun S w cs x => ∃ A7 n7 c7, cs = ([.int .i64 x.kind, .int .i64 x.view, .int .i64 x.src, .int .i64 x.dst, .int .i64 x.op, .int .i64 x.commit, .int .i64 x.normal, .slice A7 n7 c7] : List Value) ∧ Sl EntryK S w A7 n7 c7 x.log
  len := by
    rintro S w cs x ⟨_, _, _, rfl, _⟩
    rfl
  one := by
    rintro S w cs x ⟨_, _, _, rfl, _⟩ u hu
    simp only [List.mem_cons, List.not_mem_nil, or_false] at hu
    rcases hu with rfl | rfl | rfl | rfl | rfl | rfl | rfl | rfl <;> rfl
  keep := by
    rintro S S' w w' cs x ⟨A7, n7, c7, rfl, h7⟩ hk
    exact ⟨A7, n7, c7, rfl, h7.keep hk⟩
theorem MessageK.at_ {S : Nat → Prop} {w : World} {A : Option Addr} {n cap : Nat} {xs : List MessageD} (h : Sl MessageK S w A n cap xs) (i : Nat) (hi : i < n) :
    ∃ e b off A7 n7 c7, xs[i]? = some e ∧ A = some ⟨b, off, none⟩ ∧ S b ∧ b < w.heap.size ∧ w.cell? ⟨b, off + i * 8, none⟩ = some (.int .i64 e.kind) ∧ w.cell? ⟨b, off + i * 8 + 1, none⟩ = some (.int .i64 e.view) ∧ w.cell? ⟨b, off + i * 8 + 2, none⟩ = some (.int .i64 e.src) ∧ w.cell? ⟨b, off + i * 8 + 3, none⟩ = some (.int .i64 e.dst) ∧ w.cell? ⟨b, off + i * 8 + 4, none⟩ = some (.int .i64 e.op) ∧ w.cell? ⟨b, off + i * 8 + 5, none⟩ = some (.int .i64 e.commit) ∧ w.cell? ⟨b, off + i * 8 + 6, none⟩ = some (.int .i64 e.normal) ∧ w.cell? ⟨b, off + i * 8 + 7, none⟩ = some (.slice A7 n7 c7) ∧ Sl EntryK S w A7 n7 c7 e.log := by
  obtain ⟨b, off, c, hA, hS, hR, hc⟩ := h.at_ i hi
  obtain ⟨A7, n7, c7, rfl, h7⟩ := hR
  refine ⟨_, b, off, A7, n7, c7, List.getElem?_eq_getElem _, hA, hS, World.block_lt_of_cell? w _ (hc 0 _ rfl), hc 0 _ rfl, hc 1 _ rfl, hc 2 _ rfl, hc 3 _ rfl, hc 4 _ rfl, hc 5 _ rfl, hc 6 _ rfl, hc 7 _ rfl, h7⟩

end Go.Proofs.Ytlgdiloddphgnaa
