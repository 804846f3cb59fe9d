import Derived.Test.YtlgdiloddphgnaaW11
namespace Go.Proofs.Ytlgdiloddphgnaa
open Go.RowKit

/-- A box of a change. -/
theorem delta_box {w : World} {b : Nat} {c0 c1 c2 c3 c4 c5 : Value} {e : TypeId} (h : w.heap[b]? = some (.cells #[c0, c1, c2, c3, c4, c5] e (0, 0))) :
    w.cell? ⟨b, 0, none⟩ = some c0 ∧ w.cell? ⟨b, 1, none⟩ = some c1 ∧ w.cell? ⟨b, 2, none⟩ = some c2 ∧ w.cell? ⟨b, 3, none⟩ = some c3 ∧ w.cell? ⟨b, 4, none⟩ = some c4 ∧ w.cell? ⟨b, 5, none⟩ = some c5 ∧ (∀ j, w.frozen? ⟨b, j, none⟩ = false) := by
  obtain ⟨h1, h2⟩ := box_facts h
  refine ⟨?_, ?_, ?_, ?_, ?_, ?_, h2⟩ <;> (rw [h1]; rfl)

set_option maxHeartbeats 4000000 in
/-- colandermade.Delta -/
theorem madeDelta_any {S : Nat → Prop} (x : DeltaD) (w : World) (A7 : Option Addr) (n7 c7 : Nat) (A8 : Option Addr) (n8 c8 : Nat) (h7 : Sl RuleK S w A7 n7 c7 x.put) (hn7 : n7 ≤ 20) :
    Calls Try.prog 73 #[.agg #[.int .i64 x.dflt, .int .i64 x.closed, .int .i64 x.fuel, .int .i64 x.stack, .slice A7 n7 c7, .slice A8 n8 c8]] w fun e w' =>
      ∃ A' c', e = .returned (.agg #[.int .i64 x.dflt, .int .i64 x.closed, .int .i64 x.fuel, .int .i64 x.stack, .slice A' n7 c', .slice A8 n8 c8]) ∧ Sl RuleK (New w) w' A' n7 c' x.put ∧ Below w.heap.size w w' := by
  have hl := Lib.hid h7.hl
  go_enter Try.func73, Try.ntmps73
  go_wp2
  go_loopw [20] (fun i wr => ∃ (k : Nat) (v : Value), k ≤ n7 ∧ i = .int .i64 k ∧ OwnL RuleK 150 (fun _ => False) wr (w.heap.size + 3) v (x.put.take k) ∧ wr.heap[w.heap.size + 2]? = some (.cells #[.int .i64 x.dflt, .int .i64 x.closed, .int .i64 x.fuel, .int .i64 x.stack, v, .slice A8 n8 c8] 110 (0, 0)) ∧ wr.heap[w.heap.size + 1]? = some (.cells #[.int .i64 0, .int .i64 0, .int .i64 0, .int .i64 0, .slice none 0 0, .slice none 0 0] 110 (0, 0)) ∧ Below w.heap.size w wr ∧ w.heap.size + 3 ≤ wr.heap.size) (fun i _ => n7 - (intOf i).toNat)
  case atStart =>
    exact ⟨0, _, Nat.zero_le _, rfl, OwnL.nil _ _ _ _ _, (new3 _ _ _ _).2.2, (new3 _ _ _ _).2.1, below3 _ _ _ _, by simp⟩
  case round =>
    obtain ⟨k, v, hk, rfl, hown, hx3, hx2, hb, hz⟩ := hrel
    have hlen : (x.put.take k).length = k := by rw [List.length_take, hl.out]; omega
    obtain ⟨A3, c3, rfl, _⟩ := hown.len' hlen
    have HLEN := Lib.hid hlen
    clear hlen
    have hz2 : w.heap.size + 2 < wr.heap.size := by omega
    have hz1 : w.heap.size + 1 < wr.heap.size := by omega
    obtain ⟨y0, y1, y2, y3, y4, y5, yf⟩ := delta_box hx3
    obtain ⟨z0, z1, z2, z3, z4, z5, zf⟩ := delta_box hx2
    by_cases hlt : k < n7
    · obtain ⟨r, b, off, hr, rfl, hS, hlb, f0, f1, f2, f3, f4⟩ := RuleK.at_ (h7.below hb) k hlt
      have HX := Lib.hid hr
      clear hr
      have hR : ∀ (S' : Nat → Prop) (W : World), RuleK.R S' W [.int .i64 r.id, .int .i64 r.pri, .int .i64 r.act, .int .i64 r.sco, .string r.pat] r := fun _ _ => rfl
      have hfar : ∀ q, (Value.slice A3 k c3).ownBlock = some q → w.heap.size + 3 ≤ q ∧ q < wr.heap.size := fun q hq => hown.own q hq
      go_wp2_with (at_builtin; refine wpl_append (v := .slice A3 k c3) (m := 1) (c := 1) rfl (.tmp 25) (.tmp 27) rfl F_rule_ref rfl rfl (hown.below (below2 _ _ _)) (Sl.boxAt (hR (fun _ => False) _) _ (wr.heap.size + 1) (by simp)) (fun q hq _ e => by have := (hfar q e.symm).2; have := hq.elim False.elim id; omega) (by rw [HLEN.out]; omega) (by simp; omega) ?_; intro v1 w1 o1 g1 at1; have hxa := (g1.block (w.heap.size + 2) (by simp; omega) (fun e => by have := (hfar _ e.symm).1; omega)).trans ((Below.heap_alloc _ _ _ (by simp; omega)).trans ((Below.heap_alloc _ _ _ (by omega)).trans hx3)); have hxb := (g1.block (w.heap.size + 1) (by simp; omega) (fun e => by have := (hfar _ e.symm).1; omega)).trans ((Below.heap_alloc _ _ _ (by simp; omega)).trans ((Below.heap_alloc _ _ _ (by omega)).trans hx2)); obtain ⟨A4, c4, rfl, _⟩ := o1.sliceF flat_rule (m := k + 1) (by rw [List.length_append, HLEN.out]; rfl); obtain ⟨p0, p1, p2, p3, p4, p5, pf⟩ := delta_box hxa)
      go_roundw
      case rel =>
        have hs1 : wr.heap.size ≤ w1.heap.size := by have := g1.size; simp at this; omega
        refine ⟨k + 1, _, by omega, by go_num, ?_, setCell_box (j := 4) hxa _, ?_, ?_, by simp [World.setCell]; omega⟩
        · rw [take_snoc HX.out]
          refine (o1.flat (S2 := fun _ => False) flat_rule).move (fun q hq _ => Below.heap_setCell _ _ _ _ ?_) (fun q hq _ _ => hq.elim)
          have := (o1.own q hq).1
          simp
          omega
        · rw [Below.heap_setCell _ _ _ _ (by simp)]
          exact hxb
        · exact ((bt hb (below2 wr _ _)).trans (grown_below g1 (fun q hq => by have := (hfar q hq).1; omega) (by simp; omega))).setCell (p := ⟨w.heap.size + 2, 4, none⟩) (by simp) _
      case measure => simp [intOf]; omega
    · have e : k = x.put.length := by have := hl.out; omega
      have hown' := hown
      rw [e, List.take_length] at hown'
      obtain ⟨A5, c5, hv5, hs⟩ := hown'.sliceF flat_rule rfl
      clear hown'
      have hv6 : A5 = A3 ∧ c5 = c3 := by simp only [Value.slice.injEq] at hv5; exact ⟨hv5.1.symm, hv5.2.2.symm⟩
      obtain ⟨rfl, rfl⟩ := hv6
      have hkn : k = n7 := by omega
      subst hkn
      have HS := Lib.hid hs
      have HE := Lib.hid e
      clear hs hv5 e
      go_wp2
      refine bodyPost_ret (v := .agg #[.int .i64 x.dflt, .int .i64 x.closed, .int .i64 x.fuel, .int .i64 x.stack, .slice A5 k c5, .slice A8 n8 c8]) (by simp [results, Try.results73, go_sem, *]) rfl ⟨A5, c5, rfl, ?_, ?_⟩
      · have hs' := HS.out
        rw [← HE.out] at hs'
        refine hs'.keep fun q hq _ => ⟨?_, by simp only [New]; omega⟩
        iterate 6 rw [Below.heap_setCell _ _ _ _ (by simp only []; omega)]
      · iterate 6 refine Below.setCell ?_ (Nat.le_add_right _ 1) _
        exact hb

set_option maxHeartbeats 4000000 in
/-- colandermade.Entries -/
theorem entries_any {S : Nat → Prop} {A : Option Addr} {n cap : Nat} {l : List EntryD} (w : World) (h : Sl EntryK S w A n cap l) (hn : n ≤ 70) (hsm : ∀ x ∈ l, SmallE x) :
    Calls Try.prog 39 #[.slice A n cap] w fun e w' => ∃ A' c', e = .returned (.slice A' n c') ∧ Sl EntryK (fun k => S k ∨ New w k) w' A' n c' l ∧ Below w.heap.size w w' := by
  have hl := Lib.hid h.hl
  have HSM := Lib.hid hsm
  clear hsm
  have h0 := h.bound
  go_enter Try.func39, Try.ntmps39
  go_wp2
  go_loopw [3, 8] (fun v i wr => ∃ k : Nat, k ≤ n ∧ i = .int .i64 k ∧ OwnL EntryK 112 (fun k => (S k ∧ k < w.heap.size) ∨ New w k) wr w.heap.size v (l.take k) ∧ Below w.heap.size w wr) (fun _ i _ => n - (intOf i).toNat)
  case atStart => exact ⟨0, Nat.zero_le _, rfl, OwnL.nil _ _ _ _ _, Below.refl _ _⟩
  case round =>
    obtain ⟨k, hk, rfl, hown, hb⟩ := hrel
    have hsz := hb.size
    by_cases hlt : k < n
    · obtain ⟨x, b, off, A7, n7, c7, A8, n8, c8, hx, rfl, hS, hlb, f0, f1, f2, f3, f4, f5, f6, f7, f8, hs7, hs8⟩ := EntryK.at_ (h0.below hb) k hlt
      have hxm := HSM.out x (List.mem_of_getElem? hx)
      have HX := Lib.hid hx
      clear hx
      have hn7 : n7 ≤ 20 := by have := hs7.hl; have := hxm.1; omega
      have hlen : (l.take k).length = k := by rw [List.length_take, hl.out]; omega
      obtain ⟨A3, c3, rfl, _⟩ := hown.len' hlen
      have HLEN := Lib.hid hlen
      have hfar : ∀ q, (Value.slice A3 k c3).ownBlock = some q → w.heap.size ≤ q ∧ q < wr.heap.size := fun q hq => hown.own q hq
      clear hlen hxm
      go_wp2
      have hnew := heap_alloc_new wr (.cells #[.int .i64 x.view, .int .i64 x.client, .int .i64 x.request, .int .i64 x.delta.dflt, .int .i64 x.delta.closed, .int .i64 x.delta.fuel, .int .i64 x.delta.stack, .slice A7 n7 c7, .slice A8 n8 c8] 44)
      obtain ⟨p0, p1, p2, p3, p4, p5, p6, p7, p8, pf⟩ := entry_box hnew
      go_region_held3 (fun w' : World => w'.cell? ⟨wr.heap.size, 0, none⟩ = some (.int .i64 x.view) ∧ w'.cell? ⟨wr.heap.size, 1, none⟩ = some (.int .i64 x.client) ∧ w'.cell? ⟨wr.heap.size, 2, none⟩ = some (.int .i64 x.request) ∧ w'.cell? ⟨wr.heap.size, 3, none⟩ = some (.int .i64 x.delta.dflt) ∧ w'.cell? ⟨wr.heap.size, 4, none⟩ = some (.int .i64 x.delta.closed) ∧ w'.cell? ⟨wr.heap.size, 5, none⟩ = some (.int .i64 x.delta.fuel) ∧ w'.cell? ⟨wr.heap.size, 6, none⟩ = some (.int .i64 x.delta.stack) ∧ w'.cell? ⟨wr.heap.size, 7, none⟩ = some (.slice A7 n7 c7) ∧ w'.cell? ⟨wr.heap.size, 8, none⟩ = some (.slice A8 n8 c8))
        (first | exact ⟨r0, r1, r2, r3, r4, r5, r6, r7, r8⟩ | exact ⟨q0, q1, q2, q3, q4, q5, q6, q7, q8⟩ | exact ⟨p0, p1, p2, p3, p4, p5, p6, p7, p8⟩ | go_keep)
        (first | (go_at_call 73; refine (madeDelta_any x.delta _ A7 n7 c7 A8 n8 c8 (hs7.below (below1 _ _).drew) hn7).mono ?_; rintro e w1 ⟨A', c', rfl, hsP, hb1⟩; have hb2 : Below wr.heap.size wr w1 := (below1 wr _).drew.trans (hb1.mono (by simp)); obtain ⟨q0, q1, q2, q3, q4, q5, q6, q7, q8, qf⟩ := entry_box ((hb1.block wr.heap.size (by simp)).trans hnew); have hR : EntryK.R (fun q => (S q ∧ q < w.heap.size) ∨ wr.heap.size ≤ q) w1 [.int .i64 x.view, .int .i64 x.client, .int .i64 x.request, .int .i64 x.delta.dflt, .int .i64 x.delta.closed, .int .i64 x.delta.fuel, .int .i64 x.delta.stack, .slice A' n7 c', .slice A8 n8 c8] x := ⟨A', n7, c', A8, n8, c8, rfl, hsP.mono (fun q hq => .inr (by simp at hq; omega)), (hs8.below hb2).mono (fun q hq => .inl hq)⟩; have hz1 := hb2.size; have hz5 : wr.heap.size < w1.heap.size := (by have := hb1.size; simp at this; omega)) |
          (have hgd := hb2.size; refine step_append (o := ⟨some 24, _, _, _, _, _⟩) (v := .slice A3 k c3) (m := 1) (c := 1) rfl (.tmp 12) (.tmp 23) rfl F_entry_ref rfl rfl (hown.below (hb2.alloc hb2.size _)) (Sl.boxAt hR _ w1.heap.size rfl) (fun q hq _ e => by have := hfar q e.symm; rcases hq with (⟨_, hq⟩ | hq) | hq <;> omega) (by rw [HLEN.out]; omega) (by simp; omega) ?_; intro v3 w3 o3 g3 at3; have hw3 : Below w.heap.size w w3 := (bt hb (hb2.alloc hb2.size _)).trans (grown_below g3 (fun q hq => (hfar q hq).1) (by simp; omega)); obtain ⟨r0, r1, r2, r3, r4, r5, r6, r7, r8, rf⟩ := entry_box ((g3.block wr.heap.size (by simp; omega) (fun e => by have := (hfar _ e.symm).2; omega)).trans ((Below.heap_alloc _ _ _ (by omega)).trans ((hb1.block wr.heap.size (by simp)).trans hnew)))))
      go_wp2
      go_roundw
      case rel =>
        refine ⟨k + 1, by omega, by go_num, ?_, hw3⟩
        rw [take_snoc HX.out]
        refine o3.mono fun q hq _ => ?_
        rcases hq with hq | (hq | hq) | hq
        · exact hq
        · exact .inl hq
        · exact .inr (Nat.le_trans hsz hq)
        · subst hq; exact .inr (Nat.le_trans hsz hz1)
      case measure => simp [intOf]; omega
    · have e : k = l.length := by have := hl.out; omega
      have hown' := hown
      rw [e, List.take_length] at hown'
      obtain ⟨A', c', rfl, hs⟩ := hown'.slice' hl.out
      clear hown e
      go_wp2
      go_ret
      refine ⟨A', c', rfl, hs.mono (fun q hq => ?_), hb⟩
      rcases hq with (hq | hq) | hq
      · exact .inl hq.1
      · exact .inr hq
      · exact .inr (hown'.own q hq.symm).1
end Go.Proofs.Ytlgdiloddphgnaa
