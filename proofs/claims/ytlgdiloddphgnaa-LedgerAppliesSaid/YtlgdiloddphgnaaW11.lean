import Derived.Test.YtlgdiloddphgnaaTypes
import Derived.Test.YtlgdiloddphgnaaSpec
namespace Go.Proofs.Ytlgdiloddphgnaa
open Go.RowKit

/-- Entries whose lists aren't long. -/
def SmallE (x : EntryD) : Prop := x.delta.put.length ≤ 20 ∧ x.delta.drop.length ≤ 20
theorem take_snoc {α : Type} {l : List α} {k : Nat} {x : α} (h : l[k]? = some x) : l.take (k + 1) = l.take k ++ [x] := by
  rw [List.take_add_one, h]
  rfl

/-- A box of an entry, and what is stored into two of its fields. -/
theorem entry_box {w : World} {b : Nat} {c0 c1 c2 c3 c4 c5 c6 c7 c8 : Value} (h : w.heap[b]? = some (.cells #[c0, c1, c2, c3, c4, c5, c6, c7, c8] 44 (0, 0))) :
    w.cell? ⟨b, 0, none⟩ = some c0 ∧ w.cell? ⟨b, 1, none⟩ = some c1 ∧ w.cell? ⟨b, 2, none⟩ = some c2 ∧ w.cell? ⟨b, 3, none⟩ = some c3 ∧ w.cell? ⟨b, 4, none⟩ = some c4 ∧ w.cell? ⟨b, 5, none⟩ = some c5 ∧ w.cell? ⟨b, 6, none⟩ = some c6 ∧ w.cell? ⟨b, 7, none⟩ = some c7 ∧ w.cell? ⟨b, 8, none⟩ = some c8 ∧ (∀ j, w.frozen? ⟨b, j, none⟩ = false) := by
  obtain ⟨h1, h2⟩ := box_facts h
  refine ⟨?_, ?_, ?_, ?_, ?_, ?_, ?_, ?_, ?_, h2⟩ <;> (rw [h1]; rfl)

/-- The copy of an entry, its two lists copied one behind the other. -/
theorem copy_step {wr w1 w2 : World} {x : EntryD} {S1 S2 : Nat → Prop} {n7 n8 : Nat} {v1 v2 : Value} {bx : Obj} (h7 : x.delta.put.length = n7) (h8 : x.delta.drop.length = n8)
    (g1 : (wr.alloc bx).grownBy w1 none) (o1 : OwnL RuleK 46 S1 w1 (wr.heap.size + 1) v1 x.delta.put)
    (g2 : (w1.setCell ⟨wr.heap.size, 7, none⟩ v1).grownBy w2 none) (o2 : OwnL Kn.int 3 S2 w2 (wr.heap.size + 1) v2 x.delta.drop) :
    Below wr.heap.size wr (w2.setCell ⟨wr.heap.size, 8, none⟩ v2) ∧
      EntryK.R (fun k => wr.heap.size ≤ k) (w2.setCell ⟨wr.heap.size, 8, none⟩ v2) [.int .i64 x.view, .int .i64 x.client, .int .i64 x.request, .int .i64 x.delta.dflt, .int .i64 x.delta.closed, .int .i64 x.delta.fuel, .int .i64 x.delta.stack, v1, v2] x := by
  have hs1 : wr.heap.size < w1.heap.size := by have := g1.size; simp at this; omega
  have hb1 : Below wr.heap.size wr w1 := (below1 wr _).grown g1 (by simp) (by simp)
  have hb2 : Below wr.heap.size wr (w1.setCell ⟨wr.heap.size, 7, none⟩ v1) := hb1.setCell (p := ⟨wr.heap.size, 7, none⟩) (Nat.le_refl _) _
  have hb3 : Below wr.heap.size wr w2 := hb2.grown g2 (by simp [World.setCell]; omega) (by simp)
  refine ⟨hb3.setCell (p := ⟨wr.heap.size, 8, none⟩) (Nat.le_refl _) _, ?_⟩
  obtain ⟨A1, k1, rfl, l1⟩ := o1.sliceF flat_rule h7
  obtain ⟨A2, k2, rfl, l2⟩ := o2.sliceF flat_int h8
  refine ⟨A1, n7, k1, A2, n8, k2, rfl, l1.keep fun k hk hlt => ⟨?_, by omega⟩, l2.keep fun k hk hlt => ⟨?_, by omega⟩⟩
  · rw [Below.heap_setCell _ _ _ _ (by simp; omega), g2.block k (by simpa [World.setCell] using hlt) (by simp), Below.heap_setCell _ _ _ _ (by simp; omega)]
  · rw [Below.heap_setCell _ _ _ _ (by simp; omega)]

set_option maxHeartbeats 4000000 in
/-- ledger.copied -/
theorem copied_any {S : Nat → Prop} {A : Option Addr} {n cap : Nat} {l : List EntryD} (w : World) (h : Sl EntryK S w A n cap l) (hn : n ≤ 70) (hsm : ∀ x ∈ l, SmallE x) :
    Calls Try.prog 42 #[.slice A n cap] w fun e w' => ∃ A' c', e = .returned (.slice A' n c') ∧ Sl EntryK (New w) w' A' n c' l ∧ Below w.heap.size w w' := by
  have hl := Lib.hid h.hl
  have HSM := Lib.hid hsm
  clear hsm
  go_enter Try.func42, Try.ntmps42
  go_wp2
  go_loopw [3, 8] (fun v i wr => ∃ k : Nat, k ≤ n ∧ i = .int .i64 k ∧ OwnL EntryK 44 (New w) wr w.heap.size v (l.take k) ∧ Below w.heap.size w wr) (fun _ i _ => n - (intOf i).toNat)
  case atStart => exact ⟨0, Nat.zero_le _, rfl, OwnL.nil _ _ _ _ _, Below.refl _ _⟩
  case round =>
    obtain ⟨k, hk, rfl, hown, hb⟩ := hrel
    have hsz := hb.size
    by_cases hlt : k < n
    · obtain ⟨x, b, off, A7, n7, c7, A8, n8, c8, hx, rfl, hS, hlb, f0, f1, f2, f3, f4, f5, f6, f7, f8, hs7, hs8⟩ := EntryK.at_ (h.below hb) k hlt
      have hxm := HSM.out x (List.mem_of_getElem? hx)
      have HX := Lib.hid hx
      clear hx
      have hn7 : n7 ≤ 20 := by have := hs7.hl; have := hxm.1; omega
      have hn8 : n8 ≤ 20 := by have := hs8.hl; have := hxm.2; omega
      have hlen : (l.take k).length = k := by rw [List.length_take, hl.out]; omega
      obtain ⟨A3, c3, rfl, _⟩ := hown.len' hlen
      have HLEN := Lib.hid hlen
      have hfar : ∀ q, wr.heap.size ≤ q → some q ≠ (Value.slice A3 k c3).ownBlock := fun q hq e => by have := (hown.own q e.symm).2; omega
      clear hlen hxm
      go_wp2_with (first | (at_builtin; refine wpl_append (v := .slice none 0 0) (A := A7) (m := n7) (c := c7) rfl (.const (.slice none 0 0)) (.tmp 14) rfl F_rule rfl rfl (OwnL.nil RuleK _ (fun _ => False) _ (wr.heap.size + 1)) (hs7.below (below1 _ _)) (fun _ _ _ => by simp [Value.ownBlock]) (by simp only [List.length_nil]; omega) (by simp) ?_; intro v1 w1 o1 g1 at1; obtain ⟨A1, k1, rfl, _⟩ := OwnL.sliceF flat_rule o1 hs7.hl; have hx1 := (g1.block wr.heap.size (by simp) (by simp [Value.ownBlock])).trans (heap_alloc_new wr _); obtain ⟨x0, x1, x2, x3, x4, x5, x6, x7, x8, xf⟩ := entry_box hx1; have hs1 : wr.heap.size < w1.heap.size := (by have := g1.size; simp at this; omega); have hb1 : Below wr.heap.size wr w1 := (below1 wr _).grown g1 (by simp) (by simp [Value.ownBlock])) | (at_builtin; refine wpl_append (v := .slice none 0 0) (A := A8) (m := n8) (c := c8) rfl (.const (.slice none 0 0)) (.tmp 20) rfl F_int rfl rfl (OwnL.nil Kn.int _ (fun _ => False) _ (wr.heap.size + 1)) (hs8.below (hb1.setCell (p := ⟨wr.heap.size, 7, none⟩) (Nat.le_refl _) _)) (fun _ _ _ => by simp [Value.ownBlock]) (by simp only [List.length_nil]; omega) (by simp [World.setCell]; omega) ?_; intro v2 w2 o2 g2 at2; obtain ⟨A2, k2, rfl, _⟩ := OwnL.sliceF flat_int o2 hs8.hl; have hx2 := (g2.block wr.heap.size (by simpa [World.setCell] using hs1) (by simp [Value.ownBlock])).trans (setCell_box (j := 7) hx1 _); obtain ⟨y0, y1, y2, y3, y4, y5, y6, y7, y8, yf⟩ := entry_box hx2; have hcs := copy_step hs7.hl hs8.hl g1 o1 g2 o2; have hz2 : wr.heap.size ≤ w2.heap.size := (by have := g2.size; simp [World.setCell] at this; omega)) | (at_builtin; refine wpl_append (v := .slice A3 k c3) (m := 1) (c := 1) rfl (.tmp 24) (.tmp 26) rfl F_entry rfl rfl (hown.below (hcs.1.alloc hcs.1.size _)) (Sl.boxAt hcs.2 _ w2.heap.size (by simp [World.setCell])) (fun q hq _ => hfar q (hq.elim id (fun h => h ▸ hz2))) (by rw [HLEN.out]; omega) (by simp [World.setCell]; omega) ?_; intro v3 w3 o3 g3 at3))
      have hw4 : Below w.heap.size w ((w2.setCell ⟨wr.heap.size, 8, none⟩ (.slice A2 n8 k2)).alloc (.cells #[.int .i64 x.view, .int .i64 x.client, .int .i64 x.request, .int .i64 x.delta.dflt, .int .i64 x.delta.closed, .int .i64 x.delta.fuel, .int .i64 x.delta.stack, .slice A1 n7 k1, .slice A2 n8 k2] 44)) := bt hb (hcs.1.alloc hcs.1.size _)
      go_roundw
      case rel =>
        refine ⟨k + 1, by omega, by go_num, ?_, hw4.trans (grown_below g3 (fun q hq => (hown.own q hq).1) (by simp [World.setCell]; omega))⟩
        rw [take_snoc HX.out]
        refine o3.mono fun q hq _ => ?_
        rcases hq with hq | hq | hq
        · exact hq
        · exact Nat.le_trans hsz hq
        · subst hq; exact Nat.le_trans hsz hz2
      case measure => simp [intOf]; omega
    · have e : k = l.length := by have := hl.out; omega
      have hown' := hown
      rw [e, List.take_length] at hown'
      obtain ⟨A', c', rfl, hs⟩ := hown'.slice' hl.out
      clear hown e
      go_wp2
      go_ret
      exact ⟨A', c', rfl, hs.mono (fun q hq => hq.elim id (fun h => (hown'.own q h.symm).1)), hb⟩
end Go.Proofs.Ytlgdiloddphgnaa
