import Derived.Test.YtlgdiloddphgnaaW19
set_option linter.unusedSimpArgs false
set_option linter.unusedVariables false
namespace Go.Proofs.Ytlgdiloddphgnaa
open Go.RowKit

/-- A slice literal without elements. -/
theorem OwnL.lit0 {α : Type} (d : Kn α) (e : TypeId) (S : Nat → Prop) (w : World) (g base : Nat) (hg : w.heap[g]? = some (.cells #[] e (0, 0))) (hb : base ≤ g) : OwnL d e S w base (.slice (some ⟨g, 0, none⟩) 0 0) [] :=
  ⟨[], rfl, ⟨by simp, .inr ⟨g, 0, #[], rfl, hb, hg, Nat.le_refl _, Nat.zero_le _, by simp, by simp⟩⟩, fun i c x h => by simp at h⟩

theorem below4 (w : World) (a b c d : Obj) : Below w.heap.size w ((((w.alloc a).alloc b).alloc c).alloc d) := (below3 w a b c).alloc (by simp; omega) _
theorem new4 (w : World) (a b c d : Obj) : ((((w.alloc a).alloc b).alloc c).alloc d).heap[w.heap.size + 3]? = some d := by
  have := heap_alloc_new (((w.alloc a).alloc b).alloc c) d
  rwa [show (((w.alloc a).alloc b).alloc c).heap.size = w.heap.size + 3 by simp] at this

/-- What a call of the reference's Apply ends in. -/
def RefEnds (S : Nat → Prop) (w : World) (o : StateD × Int) (e : Ending) (w' : World) : Prop :=
  ∃ A' n' c', e = .returned (.tuple #[.agg #[.int .i64 o.1.view, .int .i64 o.1.normal, .int .i64 o.1.commit, .int .i64 o.1.active, .slice A' n' c'], .int .i64 o.2]) ∧ Sl EntryK S w' A' n' c' o.1.log ∧ Below w.heap.size w w'

set_option maxHeartbeats 2000000 in
theorem refApply_1 {S S3 : Nat → Prop} {w : World} {A : Option Addr} {n cap : Nat} (s : StateD) (r : RecordD) (A3 : Option Addr) (n3 c3 : Nat)
    (h : Sl EntryK S w A n cap s.log) (hn : n ≤ 64) (hk : r.kind = 1) (x1 : s.view ≤ r.a) (x2 : s.normal ≤ r.b) (x3 : r.b ≤ r.a) :
    Calls Try.prog 26 #[.agg #[.int .i64 s.view, .int .i64 s.normal, .int .i64 s.commit, .int .i64 s.active, .slice A n cap], .agg #[.int .i64 r.kind, .int .i64 r.a, .int .i64 r.b, .slice A3 n3 c3]] w
      (RefEnds (fun k => (S k ∨ S3 k) ∨ New w k) w ({ s with view := r.a, normal := r.b }, 0)) := by
  have hnew := new3 w (.cells #[.int .i64 s.view, .int .i64 s.normal, .int .i64 s.commit, .int .i64 s.active, .slice A n cap] 35) (.cells #[.int .i64 r.kind, .int .i64 r.a, .int .i64 r.b, .slice A3 n3 c3] 62) (.cells #[.int .i64 0, .int .i64 0, .int .i64 0, .int .i64 0, .slice none 0 0] 35)
  have hlh := Lib.hid h.hl
  have hb1 : (r.kind == 1) = true := by simp [hk]
  have hb2 : (r.kind == 2) = false := by simp [hk]
  have hb3 : (r.kind == 3) = false := by simp [hk]
  have hb4 : (r.kind == 4) = false := by simp [hk]
  have hb5 : (r.kind == 5) = false := by simp [hk]
  clear hk
  go_enter Try.func26, Try.ntmps26
  go_wp2_with (first | (at_builtin; refine wpl_append (v := .slice (some ⟨w.heap.size + 1 + 1 + 1, 0, none⟩) 0 0) (A := A) (m := n) (c := cap) rfl (.tmp 7) (.tmp 9) rfl F_entry_ref rfl rfl (OwnL.lit0 EntryK _ (fun _ => False) _ (w.heap.size + 3) (w.heap.size + 3) (new4 w _ _ _ _) (Nat.le_refl _)) (h.bound.below (below4 _ _ _ _ _)) (fun q hq _ e => by simp [Value.ownBlock] at e; omega) (by simp only [List.length_nil]; omega) (by simp) ?_; intro v1 w1 o1 g1 at1; obtain ⟨A1, k1, rfl, hk1⟩ := o1.len' (m := n) hlh.out; have hs1 : w.heap.size + 4 ≤ w1.heap.size := (by have := g1.size; simp at this; omega); have hbw : Below w.heap.size w w1 := (below4 w _ _ _ _).grown g1 (by simp <;> omega) (fun k hk => by simp [Value.ownBlock] at hk; omega); have hx0 := (g1.block w.heap.size (by simp <;> omega) (by simp [Value.ownBlock] <;> omega)).trans (alloc_heap hnew.1); have hx1 := (g1.block (w.heap.size + 1) (by simp <;> omega) (by simp [Value.ownBlock] <;> omega)).trans (alloc_heap hnew.2.1); have hx2 := (g1.block (w.heap.size + 2) (by simp <;> omega) (by simp [Value.ownBlock] <;> omega)).trans (alloc_heap hnew.2.2); obtain ⟨p0, p1, p2, p3, p4, pf⟩ := state_box hx0; obtain ⟨t0, t1, t2, t3, tf⟩ := record_box hx1; obtain ⟨u0, u1, u2, u3, u4, uf⟩ := state_box hx2))
  obtain ⟨A9, c9, hv9, hs9⟩ := o1.slice' (m := n) hlh.out
  simp only [Value.slice.injEq] at hv9
  obtain ⟨rfl, _, rfl⟩ := hv9
  refine bodyPost_ret (v := .tuple #[.agg #[.int .i64 r.a, .int .i64 r.b, .int .i64 s.commit, .int .i64 s.active, .slice A1 n k1], .int .i64 0]) (by simp [results, Try.results26, go_sem, *]) rfl ⟨A1, n, k1, rfl, hs9.keep fun k hq _ => ?_, ?_⟩
  · have hk' : k < w.heap.size ∨ w.heap.size + 3 ≤ k := by
      rcases hq with ((hq | hq) | hq)
      · exact hq.elim
      · exact .inl hq.2
      · exact .inr (o1.own k hq.symm).1
    refine ⟨?_, ?_⟩
    · iterate 8 rw [Below.heap_setCell _ _ _ _ (by simp only []; omega)]
    · rcases hq with ((hq | hq) | hq)
      · exact hq.elim
      · exact .inl (.inl hq.1)
      · exact .inr (by have := (o1.own k hq.symm).1; simp only [New]; omega)
  · iterate 8 refine Below.setCell ?_ (by simp only []; omega) _
    exact hbw
set_option maxHeartbeats 2000000 in
theorem refApply_4 {S S3 : Nat → Prop} {w : World} {A : Option Addr} {n cap : Nat} (s : StateD) (r : RecordD) (A3 : Option Addr) (n3 c3 : Nat)
    (h : Sl EntryK S w A n cap s.log) (hn : n ≤ 64) (hk : r.kind = 4) (x1 : s.commit ≤ r.a) (x2 : r.a ≤ (n : Int)) :
    Calls Try.prog 26 #[.agg #[.int .i64 s.view, .int .i64 s.normal, .int .i64 s.commit, .int .i64 s.active, .slice A n cap], .agg #[.int .i64 r.kind, .int .i64 r.a, .int .i64 r.b, .slice A3 n3 c3]] w
      (RefEnds (fun k => (S k ∨ S3 k) ∨ New w k) w ({ s with commit := r.a }, 0)) := by
  have hnew := new3 w (.cells #[.int .i64 s.view, .int .i64 s.normal, .int .i64 s.commit, .int .i64 s.active, .slice A n cap] 35) (.cells #[.int .i64 r.kind, .int .i64 r.a, .int .i64 r.b, .slice A3 n3 c3] 62) (.cells #[.int .i64 0, .int .i64 0, .int .i64 0, .int .i64 0, .slice none 0 0] 35)
  have hlh := Lib.hid h.hl
  have hb1 : (r.kind == 1) = false := by simp [hk]
  have hb2 : (r.kind == 2) = false := by simp [hk]
  have hb3 : (r.kind == 3) = false := by simp [hk]
  have hb4 : (r.kind == 4) = true := by simp [hk]
  have hb5 : (r.kind == 5) = false := by simp [hk]
  clear hk
  go_enter Try.func26, Try.ntmps26
  go_wp2_with (first | (at_builtin; refine wpl_append (v := .slice (some ⟨w.heap.size + 1 + 1 + 1, 0, none⟩) 0 0) (A := A) (m := n) (c := cap) rfl (.tmp 7) (.tmp 9) rfl F_entry_ref rfl rfl (OwnL.lit0 EntryK _ (fun _ => False) _ (w.heap.size + 3) (w.heap.size + 3) (new4 w _ _ _ _) (Nat.le_refl _)) (h.bound.below (below4 _ _ _ _ _)) (fun q hq _ e => by simp [Value.ownBlock] at e; omega) (by simp only [List.length_nil]; omega) (by simp) ?_; intro v1 w1 o1 g1 at1; obtain ⟨A1, k1, rfl, hk1⟩ := o1.len' (m := n) hlh.out; have hs1 : w.heap.size + 4 ≤ w1.heap.size := (by have := g1.size; simp at this; omega); have hbw : Below w.heap.size w w1 := (below4 w _ _ _ _).grown g1 (by simp <;> omega) (fun k hk => by simp [Value.ownBlock] at hk; omega); have hx0 := (g1.block w.heap.size (by simp <;> omega) (by simp [Value.ownBlock] <;> omega)).trans (alloc_heap hnew.1); have hx1 := (g1.block (w.heap.size + 1) (by simp <;> omega) (by simp [Value.ownBlock] <;> omega)).trans (alloc_heap hnew.2.1); have hx2 := (g1.block (w.heap.size + 2) (by simp <;> omega) (by simp [Value.ownBlock] <;> omega)).trans (alloc_heap hnew.2.2); obtain ⟨p0, p1, p2, p3, p4, pf⟩ := state_box hx0; obtain ⟨t0, t1, t2, t3, tf⟩ := record_box hx1; obtain ⟨u0, u1, u2, u3, u4, uf⟩ := state_box hx2))
  obtain ⟨A9, c9, hv9, hs9⟩ := o1.slice' (m := n) hlh.out
  simp only [Value.slice.injEq] at hv9
  obtain ⟨rfl, _, rfl⟩ := hv9
  refine bodyPost_ret (v := .tuple #[.agg #[.int .i64 s.view, .int .i64 s.normal, .int .i64 r.a, .int .i64 s.active, .slice A1 n k1], .int .i64 0]) (by simp [results, Try.results26, go_sem, *]) rfl ⟨A1, n, k1, rfl, hs9.keep fun k hq _ => ?_, ?_⟩
  · have hk' : k < w.heap.size ∨ w.heap.size + 3 ≤ k := by
      rcases hq with ((hq | hq) | hq)
      · exact hq.elim
      · exact .inl hq.2
      · exact .inr (o1.own k hq.symm).1
    refine ⟨?_, ?_⟩
    · iterate 7 rw [Below.heap_setCell _ _ _ _ (by simp only []; omega)]
    · rcases hq with ((hq | hq) | hq)
      · exact hq.elim
      · exact .inl (.inl hq.1)
      · exact .inr (by have := (o1.own k hq.symm).1; simp only [New]; omega)
  · iterate 7 refine Below.setCell ?_ (by simp only []; omega) _
    exact hbw
set_option maxHeartbeats 2000000 in
theorem refApply_5 {S S3 : Nat → Prop} {w : World} {A : Option Addr} {n cap : Nat} (s : StateD) (r : RecordD) (A3 : Option Addr) (n3 c3 : Nat)
    (h : Sl EntryK S w A n cap s.log) (hn : n ≤ 64) (hk : r.kind = 5) (x1 : r.a ≤ 64) :
    Calls Try.prog 26 #[.agg #[.int .i64 s.view, .int .i64 s.normal, .int .i64 s.commit, .int .i64 s.active, .slice A n cap], .agg #[.int .i64 r.kind, .int .i64 r.a, .int .i64 r.b, .slice A3 n3 c3]] w
      (RefEnds (fun k => (S k ∨ S3 k) ∨ New w k) w ({ s with active := r.a }, 0)) := by
  have hnew := new3 w (.cells #[.int .i64 s.view, .int .i64 s.normal, .int .i64 s.commit, .int .i64 s.active, .slice A n cap] 35) (.cells #[.int .i64 r.kind, .int .i64 r.a, .int .i64 r.b, .slice A3 n3 c3] 62) (.cells #[.int .i64 0, .int .i64 0, .int .i64 0, .int .i64 0, .slice none 0 0] 35)
  have hlh := Lib.hid h.hl
  have hb1 : (r.kind == 1) = false := by simp [hk]
  have hb2 : (r.kind == 2) = false := by simp [hk]
  have hb3 : (r.kind == 3) = false := by simp [hk]
  have hb4 : (r.kind == 4) = false := by simp [hk]
  have hb5 : (r.kind == 5) = true := by simp [hk]
  clear hk
  go_enter Try.func26, Try.ntmps26
  go_wp2_with (first | (at_builtin; refine wpl_append (v := .slice (some ⟨w.heap.size + 1 + 1 + 1, 0, none⟩) 0 0) (A := A) (m := n) (c := cap) rfl (.tmp 7) (.tmp 9) rfl F_entry_ref rfl rfl (OwnL.lit0 EntryK _ (fun _ => False) _ (w.heap.size + 3) (w.heap.size + 3) (new4 w _ _ _ _) (Nat.le_refl _)) (h.bound.below (below4 _ _ _ _ _)) (fun q hq _ e => by simp [Value.ownBlock] at e; omega) (by simp only [List.length_nil]; omega) (by simp) ?_; intro v1 w1 o1 g1 at1; obtain ⟨A1, k1, rfl, hk1⟩ := o1.len' (m := n) hlh.out; have hs1 : w.heap.size + 4 ≤ w1.heap.size := (by have := g1.size; simp at this; omega); have hbw : Below w.heap.size w w1 := (below4 w _ _ _ _).grown g1 (by simp <;> omega) (fun k hk => by simp [Value.ownBlock] at hk; omega); have hx0 := (g1.block w.heap.size (by simp <;> omega) (by simp [Value.ownBlock] <;> omega)).trans (alloc_heap hnew.1); have hx1 := (g1.block (w.heap.size + 1) (by simp <;> omega) (by simp [Value.ownBlock] <;> omega)).trans (alloc_heap hnew.2.1); have hx2 := (g1.block (w.heap.size + 2) (by simp <;> omega) (by simp [Value.ownBlock] <;> omega)).trans (alloc_heap hnew.2.2); obtain ⟨p0, p1, p2, p3, p4, pf⟩ := state_box hx0; obtain ⟨t0, t1, t2, t3, tf⟩ := record_box hx1; obtain ⟨u0, u1, u2, u3, u4, uf⟩ := state_box hx2))
  obtain ⟨A9, c9, hv9, hs9⟩ := o1.slice' (m := n) hlh.out
  simp only [Value.slice.injEq] at hv9
  obtain ⟨rfl, _, rfl⟩ := hv9
  refine bodyPost_ret (v := .tuple #[.agg #[.int .i64 s.view, .int .i64 s.normal, .int .i64 s.commit, .int .i64 r.a, .slice A1 n k1], .int .i64 0]) (by simp [results, Try.results26, go_sem, *]) rfl ⟨A1, n, k1, rfl, hs9.keep fun k hq _ => ?_, ?_⟩
  · have hk' : k < w.heap.size ∨ w.heap.size + 3 ≤ k := by
      rcases hq with ((hq | hq) | hq)
      · exact hq.elim
      · exact .inl hq.2
      · exact .inr (o1.own k hq.symm).1
    refine ⟨?_, ?_⟩
    · iterate 7 rw [Below.heap_setCell _ _ _ _ (by simp only []; omega)]
    · rcases hq with ((hq | hq) | hq)
      · exact hq.elim
      · exact .inl (.inl hq.1)
      · exact .inr (by have := (o1.own k hq.symm).1; simp only [New]; omega)
  · iterate 7 refine Below.setCell ?_ (by simp only []; omega) _
    exact hbw
set_option maxHeartbeats 2000000 in
theorem refApply_f1a {S S3 : Nat → Prop} {w : World} {A : Option Addr} {n cap : Nat} (s : StateD) (r : RecordD) (A3 : Option Addr) (n3 c3 : Nat)
    (h : Sl EntryK S w A n cap s.log) (hn : n ≤ 64) (hk : r.kind = 1) (x1 : r.a < s.view) :
    Calls Try.prog 26 #[.agg #[.int .i64 s.view, .int .i64 s.normal, .int .i64 s.commit, .int .i64 s.active, .slice A n cap], .agg #[.int .i64 r.kind, .int .i64 r.a, .int .i64 r.b, .slice A3 n3 c3]] w
      (RefEnds (fun k => (S k ∨ S3 k) ∨ New w k) w (zeroS, 54)) := by
  have hnew := new3 w (.cells #[.int .i64 s.view, .int .i64 s.normal, .int .i64 s.commit, .int .i64 s.active, .slice A n cap] 35) (.cells #[.int .i64 r.kind, .int .i64 r.a, .int .i64 r.b, .slice A3 n3 c3] 62) (.cells #[.int .i64 0, .int .i64 0, .int .i64 0, .int .i64 0, .slice none 0 0] 35)
  have hlh := Lib.hid h.hl
  have hb1 : (r.kind == 1) = true := by simp [hk]
  have hb2 : (r.kind == 2) = false := by simp [hk]
  have hb3 : (r.kind == 3) = false := by simp [hk]
  have hb4 : (r.kind == 4) = false := by simp [hk]
  have hb5 : (r.kind == 5) = false := by simp [hk]
  clear hk
  go_enter Try.func26, Try.ntmps26
  go_wp2_with (first | (at_builtin; refine wpl_append (v := .slice (some ⟨w.heap.size + 1 + 1 + 1, 0, none⟩) 0 0) (A := A) (m := n) (c := cap) rfl (.tmp 7) (.tmp 9) rfl F_entry_ref rfl rfl (OwnL.lit0 EntryK _ (fun _ => False) _ (w.heap.size + 3) (w.heap.size + 3) (new4 w _ _ _ _) (Nat.le_refl _)) (h.bound.below (below4 _ _ _ _ _)) (fun q hq _ e => by simp [Value.ownBlock] at e; omega) (by simp only [List.length_nil]; omega) (by simp) ?_; intro v1 w1 o1 g1 at1; obtain ⟨A1, k1, rfl, hk1⟩ := o1.len' (m := n) hlh.out; have hs1 : w.heap.size + 4 ≤ w1.heap.size := (by have := g1.size; simp at this; omega); have hbw : Below w.heap.size w w1 := (below4 w _ _ _ _).grown g1 (by simp <;> omega) (fun k hk => by simp [Value.ownBlock] at hk; omega); have hx0 := (g1.block w.heap.size (by simp <;> omega) (by simp [Value.ownBlock] <;> omega)).trans (alloc_heap hnew.1); have hx1 := (g1.block (w.heap.size + 1) (by simp <;> omega) (by simp [Value.ownBlock] <;> omega)).trans (alloc_heap hnew.2.1); have hx2 := (g1.block (w.heap.size + 2) (by simp <;> omega) (by simp [Value.ownBlock] <;> omega)).trans (alloc_heap hnew.2.2); obtain ⟨p0, p1, p2, p3, p4, pf⟩ := state_box hx0; obtain ⟨t0, t1, t2, t3, tf⟩ := record_box hx1; obtain ⟨u0, u1, u2, u3, u4, uf⟩ := state_box hx2))
  refine bodyPost_ret (v := .tuple #[.agg #[.int .i64 0, .int .i64 0, .int .i64 0, .int .i64 0, .slice none 0 0], .int .i64 54]) (by simp [results, Try.results26, go_sem, *]) rfl ⟨none, 0, 0, rfl, Sl.nil _ _ _ _ _ (by omega), ?_⟩
  iterate 5 refine Below.setCell ?_ (by simp only []; omega) _
  exact hbw
set_option maxHeartbeats 2000000 in
theorem refApply_f1b {S S3 : Nat → Prop} {w : World} {A : Option Addr} {n cap : Nat} (s : StateD) (r : RecordD) (A3 : Option Addr) (n3 c3 : Nat)
    (h : Sl EntryK S w A n cap s.log) (hn : n ≤ 64) (hk : r.kind = 1) (x1 : s.view ≤ r.a) (x2 : r.b < s.normal) :
    Calls Try.prog 26 #[.agg #[.int .i64 s.view, .int .i64 s.normal, .int .i64 s.commit, .int .i64 s.active, .slice A n cap], .agg #[.int .i64 r.kind, .int .i64 r.a, .int .i64 r.b, .slice A3 n3 c3]] w
      (RefEnds (fun k => (S k ∨ S3 k) ∨ New w k) w (zeroS, 54)) := by
  have hnew := new3 w (.cells #[.int .i64 s.view, .int .i64 s.normal, .int .i64 s.commit, .int .i64 s.active, .slice A n cap] 35) (.cells #[.int .i64 r.kind, .int .i64 r.a, .int .i64 r.b, .slice A3 n3 c3] 62) (.cells #[.int .i64 0, .int .i64 0, .int .i64 0, .int .i64 0, .slice none 0 0] 35)
  have hlh := Lib.hid h.hl
  have hb1 : (r.kind == 1) = true := by simp [hk]
  have hb2 : (r.kind == 2) = false := by simp [hk]
  have hb3 : (r.kind == 3) = false := by simp [hk]
  have hb4 : (r.kind == 4) = false := by simp [hk]
  have hb5 : (r.kind == 5) = false := by simp [hk]
  clear hk
  go_enter Try.func26, Try.ntmps26
  go_wp2_with (first | (at_builtin; refine wpl_append (v := .slice (some ⟨w.heap.size + 1 + 1 + 1, 0, none⟩) 0 0) (A := A) (m := n) (c := cap) rfl (.tmp 7) (.tmp 9) rfl F_entry_ref rfl rfl (OwnL.lit0 EntryK _ (fun _ => False) _ (w.heap.size + 3) (w.heap.size + 3) (new4 w _ _ _ _) (Nat.le_refl _)) (h.bound.below (below4 _ _ _ _ _)) (fun q hq _ e => by simp [Value.ownBlock] at e; omega) (by simp only [List.length_nil]; omega) (by simp) ?_; intro v1 w1 o1 g1 at1; obtain ⟨A1, k1, rfl, hk1⟩ := o1.len' (m := n) hlh.out; have hs1 : w.heap.size + 4 ≤ w1.heap.size := (by have := g1.size; simp at this; omega); have hbw : Below w.heap.size w w1 := (below4 w _ _ _ _).grown g1 (by simp <;> omega) (fun k hk => by simp [Value.ownBlock] at hk; omega); have hx0 := (g1.block w.heap.size (by simp <;> omega) (by simp [Value.ownBlock] <;> omega)).trans (alloc_heap hnew.1); have hx1 := (g1.block (w.heap.size + 1) (by simp <;> omega) (by simp [Value.ownBlock] <;> omega)).trans (alloc_heap hnew.2.1); have hx2 := (g1.block (w.heap.size + 2) (by simp <;> omega) (by simp [Value.ownBlock] <;> omega)).trans (alloc_heap hnew.2.2); obtain ⟨p0, p1, p2, p3, p4, pf⟩ := state_box hx0; obtain ⟨t0, t1, t2, t3, tf⟩ := record_box hx1; obtain ⟨u0, u1, u2, u3, u4, uf⟩ := state_box hx2))
  refine bodyPost_ret (v := .tuple #[.agg #[.int .i64 0, .int .i64 0, .int .i64 0, .int .i64 0, .slice none 0 0], .int .i64 54]) (by simp [results, Try.results26, go_sem, *]) rfl ⟨none, 0, 0, rfl, Sl.nil _ _ _ _ _ (by omega), ?_⟩
  iterate 5 refine Below.setCell ?_ (by simp only []; omega) _
  exact hbw
set_option maxHeartbeats 2000000 in
theorem refApply_f1c {S S3 : Nat → Prop} {w : World} {A : Option Addr} {n cap : Nat} (s : StateD) (r : RecordD) (A3 : Option Addr) (n3 c3 : Nat)
    (h : Sl EntryK S w A n cap s.log) (hn : n ≤ 64) (hk : r.kind = 1) (x1 : s.view ≤ r.a) (x2 : s.normal ≤ r.b) (x3 : r.a < r.b) :
    Calls Try.prog 26 #[.agg #[.int .i64 s.view, .int .i64 s.normal, .int .i64 s.commit, .int .i64 s.active, .slice A n cap], .agg #[.int .i64 r.kind, .int .i64 r.a, .int .i64 r.b, .slice A3 n3 c3]] w
      (RefEnds (fun k => (S k ∨ S3 k) ∨ New w k) w (zeroS, 54)) := by
  have hnew := new3 w (.cells #[.int .i64 s.view, .int .i64 s.normal, .int .i64 s.commit, .int .i64 s.active, .slice A n cap] 35) (.cells #[.int .i64 r.kind, .int .i64 r.a, .int .i64 r.b, .slice A3 n3 c3] 62) (.cells #[.int .i64 0, .int .i64 0, .int .i64 0, .int .i64 0, .slice none 0 0] 35)
  have hlh := Lib.hid h.hl
  have hb1 : (r.kind == 1) = true := by simp [hk]
  have hb2 : (r.kind == 2) = false := by simp [hk]
  have hb3 : (r.kind == 3) = false := by simp [hk]
  have hb4 : (r.kind == 4) = false := by simp [hk]
  have hb5 : (r.kind == 5) = false := by simp [hk]
  clear hk
  go_enter Try.func26, Try.ntmps26
  go_wp2_with (first | (at_builtin; refine wpl_append (v := .slice (some ⟨w.heap.size + 1 + 1 + 1, 0, none⟩) 0 0) (A := A) (m := n) (c := cap) rfl (.tmp 7) (.tmp 9) rfl F_entry_ref rfl rfl (OwnL.lit0 EntryK _ (fun _ => False) _ (w.heap.size + 3) (w.heap.size + 3) (new4 w _ _ _ _) (Nat.le_refl _)) (h.bound.below (below4 _ _ _ _ _)) (fun q hq _ e => by simp [Value.ownBlock] at e; omega) (by simp only [List.length_nil]; omega) (by simp) ?_; intro v1 w1 o1 g1 at1; obtain ⟨A1, k1, rfl, hk1⟩ := o1.len' (m := n) hlh.out; have hs1 : w.heap.size + 4 ≤ w1.heap.size := (by have := g1.size; simp at this; omega); have hbw : Below w.heap.size w w1 := (below4 w _ _ _ _).grown g1 (by simp <;> omega) (fun k hk => by simp [Value.ownBlock] at hk; omega); have hx0 := (g1.block w.heap.size (by simp <;> omega) (by simp [Value.ownBlock] <;> omega)).trans (alloc_heap hnew.1); have hx1 := (g1.block (w.heap.size + 1) (by simp <;> omega) (by simp [Value.ownBlock] <;> omega)).trans (alloc_heap hnew.2.1); have hx2 := (g1.block (w.heap.size + 2) (by simp <;> omega) (by simp [Value.ownBlock] <;> omega)).trans (alloc_heap hnew.2.2); obtain ⟨p0, p1, p2, p3, p4, pf⟩ := state_box hx0; obtain ⟨t0, t1, t2, t3, tf⟩ := record_box hx1; obtain ⟨u0, u1, u2, u3, u4, uf⟩ := state_box hx2))
  refine bodyPost_ret (v := .tuple #[.agg #[.int .i64 0, .int .i64 0, .int .i64 0, .int .i64 0, .slice none 0 0], .int .i64 54]) (by simp [results, Try.results26, go_sem, *]) rfl ⟨none, 0, 0, rfl, Sl.nil _ _ _ _ _ (by omega), ?_⟩
  iterate 5 refine Below.setCell ?_ (by simp only []; omega) _
  exact hbw
set_option maxHeartbeats 2000000 in
theorem refApply_f2 {S S3 : Nat → Prop} {w : World} {A : Option Addr} {n cap : Nat} (s : StateD) (r : RecordD) (A3 : Option Addr) (n3 c3 : Nat)
    (h : Sl EntryK S w A n cap s.log) (hn : n ≤ 64) (hk : r.kind = 2) (x1 : 64 ≤ n) :
    Calls Try.prog 26 #[.agg #[.int .i64 s.view, .int .i64 s.normal, .int .i64 s.commit, .int .i64 s.active, .slice A n cap], .agg #[.int .i64 r.kind, .int .i64 r.a, .int .i64 r.b, .slice A3 n3 c3]] w
      (RefEnds (fun k => (S k ∨ S3 k) ∨ New w k) w (zeroS, 54)) := by
  have hnew := new3 w (.cells #[.int .i64 s.view, .int .i64 s.normal, .int .i64 s.commit, .int .i64 s.active, .slice A n cap] 35) (.cells #[.int .i64 r.kind, .int .i64 r.a, .int .i64 r.b, .slice A3 n3 c3] 62) (.cells #[.int .i64 0, .int .i64 0, .int .i64 0, .int .i64 0, .slice none 0 0] 35)
  have hlh := Lib.hid h.hl
  have hb1 : (r.kind == 1) = false := by simp [hk]
  have hb2 : (r.kind == 2) = true := by simp [hk]
  have hb3 : (r.kind == 3) = false := by simp [hk]
  have hb4 : (r.kind == 4) = false := by simp [hk]
  have hb5 : (r.kind == 5) = false := by simp [hk]
  clear hk
  go_enter Try.func26, Try.ntmps26
  go_wp2_with (first | (at_builtin; refine wpl_append (v := .slice (some ⟨w.heap.size + 1 + 1 + 1, 0, none⟩) 0 0) (A := A) (m := n) (c := cap) rfl (.tmp 7) (.tmp 9) rfl F_entry_ref rfl rfl (OwnL.lit0 EntryK _ (fun _ => False) _ (w.heap.size + 3) (w.heap.size + 3) (new4 w _ _ _ _) (Nat.le_refl _)) (h.bound.below (below4 _ _ _ _ _)) (fun q hq _ e => by simp [Value.ownBlock] at e; omega) (by simp only [List.length_nil]; omega) (by simp) ?_; intro v1 w1 o1 g1 at1; obtain ⟨A1, k1, rfl, hk1⟩ := o1.len' (m := n) hlh.out; have hs1 : w.heap.size + 4 ≤ w1.heap.size := (by have := g1.size; simp at this; omega); have hbw : Below w.heap.size w w1 := (below4 w _ _ _ _).grown g1 (by simp <;> omega) (fun k hk => by simp [Value.ownBlock] at hk; omega); have hx0 := (g1.block w.heap.size (by simp <;> omega) (by simp [Value.ownBlock] <;> omega)).trans (alloc_heap hnew.1); have hx1 := (g1.block (w.heap.size + 1) (by simp <;> omega) (by simp [Value.ownBlock] <;> omega)).trans (alloc_heap hnew.2.1); have hx2 := (g1.block (w.heap.size + 2) (by simp <;> omega) (by simp [Value.ownBlock] <;> omega)).trans (alloc_heap hnew.2.2); obtain ⟨p0, p1, p2, p3, p4, pf⟩ := state_box hx0; obtain ⟨t0, t1, t2, t3, tf⟩ := record_box hx1; obtain ⟨u0, u1, u2, u3, u4, uf⟩ := state_box hx2))
  refine bodyPost_ret (v := .tuple #[.agg #[.int .i64 0, .int .i64 0, .int .i64 0, .int .i64 0, .slice none 0 0], .int .i64 54]) (by simp [results, Try.results26, go_sem, *]) rfl ⟨none, 0, 0, rfl, Sl.nil _ _ _ _ _ (by omega), ?_⟩
  iterate 5 refine Below.setCell ?_ (by simp only []; omega) _
  exact hbw
set_option maxHeartbeats 2000000 in
theorem refApply_f3a {S S3 : Nat → Prop} {w : World} {A : Option Addr} {n cap : Nat} (s : StateD) (r : RecordD) (A3 : Option Addr) (n3 c3 : Nat)
    (h : Sl EntryK S w A n cap s.log) (hn : n ≤ 64) (hk : r.kind = 3) (x1 : r.a < s.commit) :
    Calls Try.prog 26 #[.agg #[.int .i64 s.view, .int .i64 s.normal, .int .i64 s.commit, .int .i64 s.active, .slice A n cap], .agg #[.int .i64 r.kind, .int .i64 r.a, .int .i64 r.b, .slice A3 n3 c3]] w
      (RefEnds (fun k => (S k ∨ S3 k) ∨ New w k) w (zeroS, 54)) := by
  have hnew := new3 w (.cells #[.int .i64 s.view, .int .i64 s.normal, .int .i64 s.commit, .int .i64 s.active, .slice A n cap] 35) (.cells #[.int .i64 r.kind, .int .i64 r.a, .int .i64 r.b, .slice A3 n3 c3] 62) (.cells #[.int .i64 0, .int .i64 0, .int .i64 0, .int .i64 0, .slice none 0 0] 35)
  have hlh := Lib.hid h.hl
  have hb1 : (r.kind == 1) = false := by simp [hk]
  have hb2 : (r.kind == 2) = false := by simp [hk]
  have hb3 : (r.kind == 3) = true := by simp [hk]
  have hb4 : (r.kind == 4) = false := by simp [hk]
  have hb5 : (r.kind == 5) = false := by simp [hk]
  clear hk
  go_enter Try.func26, Try.ntmps26
  go_wp2_with (first | (at_builtin; refine wpl_append (v := .slice (some ⟨w.heap.size + 1 + 1 + 1, 0, none⟩) 0 0) (A := A) (m := n) (c := cap) rfl (.tmp 7) (.tmp 9) rfl F_entry_ref rfl rfl (OwnL.lit0 EntryK _ (fun _ => False) _ (w.heap.size + 3) (w.heap.size + 3) (new4 w _ _ _ _) (Nat.le_refl _)) (h.bound.below (below4 _ _ _ _ _)) (fun q hq _ e => by simp [Value.ownBlock] at e; omega) (by simp only [List.length_nil]; omega) (by simp) ?_; intro v1 w1 o1 g1 at1; obtain ⟨A1, k1, rfl, hk1⟩ := o1.len' (m := n) hlh.out; have hs1 : w.heap.size + 4 ≤ w1.heap.size := (by have := g1.size; simp at this; omega); have hbw : Below w.heap.size w w1 := (below4 w _ _ _ _).grown g1 (by simp <;> omega) (fun k hk => by simp [Value.ownBlock] at hk; omega); have hx0 := (g1.block w.heap.size (by simp <;> omega) (by simp [Value.ownBlock] <;> omega)).trans (alloc_heap hnew.1); have hx1 := (g1.block (w.heap.size + 1) (by simp <;> omega) (by simp [Value.ownBlock] <;> omega)).trans (alloc_heap hnew.2.1); have hx2 := (g1.block (w.heap.size + 2) (by simp <;> omega) (by simp [Value.ownBlock] <;> omega)).trans (alloc_heap hnew.2.2); obtain ⟨p0, p1, p2, p3, p4, pf⟩ := state_box hx0; obtain ⟨t0, t1, t2, t3, tf⟩ := record_box hx1; obtain ⟨u0, u1, u2, u3, u4, uf⟩ := state_box hx2))
  refine bodyPost_ret (v := .tuple #[.agg #[.int .i64 0, .int .i64 0, .int .i64 0, .int .i64 0, .slice none 0 0], .int .i64 54]) (by simp [results, Try.results26, go_sem, *]) rfl ⟨none, 0, 0, rfl, Sl.nil _ _ _ _ _ (by omega), ?_⟩
  iterate 5 refine Below.setCell ?_ (by simp only []; omega) _
  exact hbw
set_option maxHeartbeats 2000000 in
theorem refApply_f3b {S S3 : Nat → Prop} {w : World} {A : Option Addr} {n cap : Nat} (s : StateD) (r : RecordD) (A3 : Option Addr) (n3 c3 : Nat)
    (h : Sl EntryK S w A n cap s.log) (hn : n ≤ 64) (hk : r.kind = 3) (x1 : s.commit ≤ r.a) (x2 : (n : Int) < r.a) :
    Calls Try.prog 26 #[.agg #[.int .i64 s.view, .int .i64 s.normal, .int .i64 s.commit, .int .i64 s.active, .slice A n cap], .agg #[.int .i64 r.kind, .int .i64 r.a, .int .i64 r.b, .slice A3 n3 c3]] w
      (RefEnds (fun k => (S k ∨ S3 k) ∨ New w k) w (zeroS, 54)) := by
  have hnew := new3 w (.cells #[.int .i64 s.view, .int .i64 s.normal, .int .i64 s.commit, .int .i64 s.active, .slice A n cap] 35) (.cells #[.int .i64 r.kind, .int .i64 r.a, .int .i64 r.b, .slice A3 n3 c3] 62) (.cells #[.int .i64 0, .int .i64 0, .int .i64 0, .int .i64 0, .slice none 0 0] 35)
  have hlh := Lib.hid h.hl
  have hb1 : (r.kind == 1) = false := by simp [hk]
  have hb2 : (r.kind == 2) = false := by simp [hk]
  have hb3 : (r.kind == 3) = true := by simp [hk]
  have hb4 : (r.kind == 4) = false := by simp [hk]
  have hb5 : (r.kind == 5) = false := by simp [hk]
  clear hk
  go_enter Try.func26, Try.ntmps26
  go_wp2_with (first | (at_builtin; refine wpl_append (v := .slice (some ⟨w.heap.size + 1 + 1 + 1, 0, none⟩) 0 0) (A := A) (m := n) (c := cap) rfl (.tmp 7) (.tmp 9) rfl F_entry_ref rfl rfl (OwnL.lit0 EntryK _ (fun _ => False) _ (w.heap.size + 3) (w.heap.size + 3) (new4 w _ _ _ _) (Nat.le_refl _)) (h.bound.below (below4 _ _ _ _ _)) (fun q hq _ e => by simp [Value.ownBlock] at e; omega) (by simp only [List.length_nil]; omega) (by simp) ?_; intro v1 w1 o1 g1 at1; obtain ⟨A1, k1, rfl, hk1⟩ := o1.len' (m := n) hlh.out; have hs1 : w.heap.size + 4 ≤ w1.heap.size := (by have := g1.size; simp at this; omega); have hbw : Below w.heap.size w w1 := (below4 w _ _ _ _).grown g1 (by simp <;> omega) (fun k hk => by simp [Value.ownBlock] at hk; omega); have hx0 := (g1.block w.heap.size (by simp <;> omega) (by simp [Value.ownBlock] <;> omega)).trans (alloc_heap hnew.1); have hx1 := (g1.block (w.heap.size + 1) (by simp <;> omega) (by simp [Value.ownBlock] <;> omega)).trans (alloc_heap hnew.2.1); have hx2 := (g1.block (w.heap.size + 2) (by simp <;> omega) (by simp [Value.ownBlock] <;> omega)).trans (alloc_heap hnew.2.2); obtain ⟨p0, p1, p2, p3, p4, pf⟩ := state_box hx0; obtain ⟨t0, t1, t2, t3, tf⟩ := record_box hx1; obtain ⟨u0, u1, u2, u3, u4, uf⟩ := state_box hx2))
  refine bodyPost_ret (v := .tuple #[.agg #[.int .i64 0, .int .i64 0, .int .i64 0, .int .i64 0, .slice none 0 0], .int .i64 54]) (by simp [results, Try.results26, go_sem, *]) rfl ⟨none, 0, 0, rfl, Sl.nil _ _ _ _ _ (by omega), ?_⟩
  iterate 5 refine Below.setCell ?_ (by simp only []; omega) _
  exact hbw
set_option maxHeartbeats 2000000 in
theorem refApply_f4a {S S3 : Nat → Prop} {w : World} {A : Option Addr} {n cap : Nat} (s : StateD) (r : RecordD) (A3 : Option Addr) (n3 c3 : Nat)
    (h : Sl EntryK S w A n cap s.log) (hn : n ≤ 64) (hk : r.kind = 4) (x1 : r.a < s.commit) :
    Calls Try.prog 26 #[.agg #[.int .i64 s.view, .int .i64 s.normal, .int .i64 s.commit, .int .i64 s.active, .slice A n cap], .agg #[.int .i64 r.kind, .int .i64 r.a, .int .i64 r.b, .slice A3 n3 c3]] w
      (RefEnds (fun k => (S k ∨ S3 k) ∨ New w k) w (zeroS, 54)) := by
  have hnew := new3 w (.cells #[.int .i64 s.view, .int .i64 s.normal, .int .i64 s.commit, .int .i64 s.active, .slice A n cap] 35) (.cells #[.int .i64 r.kind, .int .i64 r.a, .int .i64 r.b, .slice A3 n3 c3] 62) (.cells #[.int .i64 0, .int .i64 0, .int .i64 0, .int .i64 0, .slice none 0 0] 35)
  have hlh := Lib.hid h.hl
  have hb1 : (r.kind == 1) = false := by simp [hk]
  have hb2 : (r.kind == 2) = false := by simp [hk]
  have hb3 : (r.kind == 3) = false := by simp [hk]
  have hb4 : (r.kind == 4) = true := by simp [hk]
  have hb5 : (r.kind == 5) = false := by simp [hk]
  clear hk
  go_enter Try.func26, Try.ntmps26
  go_wp2_with (first | (at_builtin; refine wpl_append (v := .slice (some ⟨w.heap.size + 1 + 1 + 1, 0, none⟩) 0 0) (A := A) (m := n) (c := cap) rfl (.tmp 7) (.tmp 9) rfl F_entry_ref rfl rfl (OwnL.lit0 EntryK _ (fun _ => False) _ (w.heap.size + 3) (w.heap.size + 3) (new4 w _ _ _ _) (Nat.le_refl _)) (h.bound.below (below4 _ _ _ _ _)) (fun q hq _ e => by simp [Value.ownBlock] at e; omega) (by simp only [List.length_nil]; omega) (by simp) ?_; intro v1 w1 o1 g1 at1; obtain ⟨A1, k1, rfl, hk1⟩ := o1.len' (m := n) hlh.out; have hs1 : w.heap.size + 4 ≤ w1.heap.size := (by have := g1.size; simp at this; omega); have hbw : Below w.heap.size w w1 := (below4 w _ _ _ _).grown g1 (by simp <;> omega) (fun k hk => by simp [Value.ownBlock] at hk; omega); have hx0 := (g1.block w.heap.size (by simp <;> omega) (by simp [Value.ownBlock] <;> omega)).trans (alloc_heap hnew.1); have hx1 := (g1.block (w.heap.size + 1) (by simp <;> omega) (by simp [Value.ownBlock] <;> omega)).trans (alloc_heap hnew.2.1); have hx2 := (g1.block (w.heap.size + 2) (by simp <;> omega) (by simp [Value.ownBlock] <;> omega)).trans (alloc_heap hnew.2.2); obtain ⟨p0, p1, p2, p3, p4, pf⟩ := state_box hx0; obtain ⟨t0, t1, t2, t3, tf⟩ := record_box hx1; obtain ⟨u0, u1, u2, u3, u4, uf⟩ := state_box hx2))
  refine bodyPost_ret (v := .tuple #[.agg #[.int .i64 0, .int .i64 0, .int .i64 0, .int .i64 0, .slice none 0 0], .int .i64 54]) (by simp [results, Try.results26, go_sem, *]) rfl ⟨none, 0, 0, rfl, Sl.nil _ _ _ _ _ (by omega), ?_⟩
  iterate 5 refine Below.setCell ?_ (by simp only []; omega) _
  exact hbw
set_option maxHeartbeats 2000000 in
theorem refApply_f4b {S S3 : Nat → Prop} {w : World} {A : Option Addr} {n cap : Nat} (s : StateD) (r : RecordD) (A3 : Option Addr) (n3 c3 : Nat)
    (h : Sl EntryK S w A n cap s.log) (hn : n ≤ 64) (hk : r.kind = 4) (x1 : s.commit ≤ r.a) (x2 : (n : Int) < r.a) :
    Calls Try.prog 26 #[.agg #[.int .i64 s.view, .int .i64 s.normal, .int .i64 s.commit, .int .i64 s.active, .slice A n cap], .agg #[.int .i64 r.kind, .int .i64 r.a, .int .i64 r.b, .slice A3 n3 c3]] w
      (RefEnds (fun k => (S k ∨ S3 k) ∨ New w k) w (zeroS, 54)) := by
  have hnew := new3 w (.cells #[.int .i64 s.view, .int .i64 s.normal, .int .i64 s.commit, .int .i64 s.active, .slice A n cap] 35) (.cells #[.int .i64 r.kind, .int .i64 r.a, .int .i64 r.b, .slice A3 n3 c3] 62) (.cells #[.int .i64 0, .int .i64 0, .int .i64 0, .int .i64 0, .slice none 0 0] 35)
  have hlh := Lib.hid h.hl
  have hb1 : (r.kind == 1) = false := by simp [hk]
  have hb2 : (r.kind == 2) = false := by simp [hk]
  have hb3 : (r.kind == 3) = false := by simp [hk]
  have hb4 : (r.kind == 4) = true := by simp [hk]
  have hb5 : (r.kind == 5) = false := by simp [hk]
  clear hk
  go_enter Try.func26, Try.ntmps26
  go_wp2_with (first | (at_builtin; refine wpl_append (v := .slice (some ⟨w.heap.size + 1 + 1 + 1, 0, none⟩) 0 0) (A := A) (m := n) (c := cap) rfl (.tmp 7) (.tmp 9) rfl F_entry_ref rfl rfl (OwnL.lit0 EntryK _ (fun _ => False) _ (w.heap.size + 3) (w.heap.size + 3) (new4 w _ _ _ _) (Nat.le_refl _)) (h.bound.below (below4 _ _ _ _ _)) (fun q hq _ e => by simp [Value.ownBlock] at e; omega) (by simp only [List.length_nil]; omega) (by simp) ?_; intro v1 w1 o1 g1 at1; obtain ⟨A1, k1, rfl, hk1⟩ := o1.len' (m := n) hlh.out; have hs1 : w.heap.size + 4 ≤ w1.heap.size := (by have := g1.size; simp at this; omega); have hbw : Below w.heap.size w w1 := (below4 w _ _ _ _).grown g1 (by simp <;> omega) (fun k hk => by simp [Value.ownBlock] at hk; omega); have hx0 := (g1.block w.heap.size (by simp <;> omega) (by simp [Value.ownBlock] <;> omega)).trans (alloc_heap hnew.1); have hx1 := (g1.block (w.heap.size + 1) (by simp <;> omega) (by simp [Value.ownBlock] <;> omega)).trans (alloc_heap hnew.2.1); have hx2 := (g1.block (w.heap.size + 2) (by simp <;> omega) (by simp [Value.ownBlock] <;> omega)).trans (alloc_heap hnew.2.2); obtain ⟨p0, p1, p2, p3, p4, pf⟩ := state_box hx0; obtain ⟨t0, t1, t2, t3, tf⟩ := record_box hx1; obtain ⟨u0, u1, u2, u3, u4, uf⟩ := state_box hx2))
  refine bodyPost_ret (v := .tuple #[.agg #[.int .i64 0, .int .i64 0, .int .i64 0, .int .i64 0, .slice none 0 0], .int .i64 54]) (by simp [results, Try.results26, go_sem, *]) rfl ⟨none, 0, 0, rfl, Sl.nil _ _ _ _ _ (by omega), ?_⟩
  iterate 5 refine Below.setCell ?_ (by simp only []; omega) _
  exact hbw
set_option maxHeartbeats 2000000 in
theorem refApply_f5 {S S3 : Nat → Prop} {w : World} {A : Option Addr} {n cap : Nat} (s : StateD) (r : RecordD) (A3 : Option Addr) (n3 c3 : Nat)
    (h : Sl EntryK S w A n cap s.log) (hn : n ≤ 64) (hk : r.kind = 5) (x1 : 64 < r.a) :
    Calls Try.prog 26 #[.agg #[.int .i64 s.view, .int .i64 s.normal, .int .i64 s.commit, .int .i64 s.active, .slice A n cap], .agg #[.int .i64 r.kind, .int .i64 r.a, .int .i64 r.b, .slice A3 n3 c3]] w
      (RefEnds (fun k => (S k ∨ S3 k) ∨ New w k) w (zeroS, 54)) := by
  have hnew := new3 w (.cells #[.int .i64 s.view, .int .i64 s.normal, .int .i64 s.commit, .int .i64 s.active, .slice A n cap] 35) (.cells #[.int .i64 r.kind, .int .i64 r.a, .int .i64 r.b, .slice A3 n3 c3] 62) (.cells #[.int .i64 0, .int .i64 0, .int .i64 0, .int .i64 0, .slice none 0 0] 35)
  have hlh := Lib.hid h.hl
  have hb1 : (r.kind == 1) = false := by simp [hk]
  have hb2 : (r.kind == 2) = false := by simp [hk]
  have hb3 : (r.kind == 3) = false := by simp [hk]
  have hb4 : (r.kind == 4) = false := by simp [hk]
  have hb5 : (r.kind == 5) = true := by simp [hk]
  clear hk
  go_enter Try.func26, Try.ntmps26
  go_wp2_with (first | (at_builtin; refine wpl_append (v := .slice (some ⟨w.heap.size + 1 + 1 + 1, 0, none⟩) 0 0) (A := A) (m := n) (c := cap) rfl (.tmp 7) (.tmp 9) rfl F_entry_ref rfl rfl (OwnL.lit0 EntryK _ (fun _ => False) _ (w.heap.size + 3) (w.heap.size + 3) (new4 w _ _ _ _) (Nat.le_refl _)) (h.bound.below (below4 _ _ _ _ _)) (fun q hq _ e => by simp [Value.ownBlock] at e; omega) (by simp only [List.length_nil]; omega) (by simp) ?_; intro v1 w1 o1 g1 at1; obtain ⟨A1, k1, rfl, hk1⟩ := o1.len' (m := n) hlh.out; have hs1 : w.heap.size + 4 ≤ w1.heap.size := (by have := g1.size; simp at this; omega); have hbw : Below w.heap.size w w1 := (below4 w _ _ _ _).grown g1 (by simp <;> omega) (fun k hk => by simp [Value.ownBlock] at hk; omega); have hx0 := (g1.block w.heap.size (by simp <;> omega) (by simp [Value.ownBlock] <;> omega)).trans (alloc_heap hnew.1); have hx1 := (g1.block (w.heap.size + 1) (by simp <;> omega) (by simp [Value.ownBlock] <;> omega)).trans (alloc_heap hnew.2.1); have hx2 := (g1.block (w.heap.size + 2) (by simp <;> omega) (by simp [Value.ownBlock] <;> omega)).trans (alloc_heap hnew.2.2); obtain ⟨p0, p1, p2, p3, p4, pf⟩ := state_box hx0; obtain ⟨t0, t1, t2, t3, tf⟩ := record_box hx1; obtain ⟨u0, u1, u2, u3, u4, uf⟩ := state_box hx2))
  refine bodyPost_ret (v := .tuple #[.agg #[.int .i64 0, .int .i64 0, .int .i64 0, .int .i64 0, .slice none 0 0], .int .i64 54]) (by simp [results, Try.results26, go_sem, *]) rfl ⟨none, 0, 0, rfl, Sl.nil _ _ _ _ _ (by omega), ?_⟩
  iterate 5 refine Below.setCell ?_ (by simp only []; omega) _
  exact hbw
set_option maxHeartbeats 2000000 in
theorem refApply_3 {S S3 : Nat → Prop} {w : World} {A : Option Addr} {n cap : Nat} (s : StateD) (r : RecordD) (A3 : Option Addr) (n3 c3 : Nat)
    (h : Sl EntryK S w A n cap s.log) (hn : n ≤ 64) (hk : r.kind = 3) (m : Nat) (hm : r.a = m) (x1 : s.commit ≤ (m : Int)) (x2 : m ≤ n) :
    Calls Try.prog 26 #[.agg #[.int .i64 s.view, .int .i64 s.normal, .int .i64 s.commit, .int .i64 s.active, .slice A n cap], .agg #[.int .i64 r.kind, .int .i64 r.a, .int .i64 r.b, .slice A3 n3 c3]] w
      (RefEnds (fun k => (S k ∨ S3 k) ∨ New w k) w ({ s with log := s.log.take m }, 0)) := by
  have hk1m : n ≤ 9223372036854775807 := h.le
  rw [hm]
  clear hm
  have hnew := new3 w (.cells #[.int .i64 s.view, .int .i64 s.normal, .int .i64 s.commit, .int .i64 s.active, .slice A n cap] 35) (.cells #[.int .i64 r.kind, .int .i64 (m : Int), .int .i64 r.b, .slice A3 n3 c3] 62) (.cells #[.int .i64 0, .int .i64 0, .int .i64 0, .int .i64 0, .slice none 0 0] 35)
  have hlh := Lib.hid h.hl
  have hb1 : (r.kind == 1) = false := by simp [hk]
  have hb2 : (r.kind == 2) = false := by simp [hk]
  have hb3 : (r.kind == 3) = true := by simp [hk]
  have hb4 : (r.kind == 4) = false := by simp [hk]
  have hb5 : (r.kind == 5) = false := by simp [hk]
  clear hk
  go_enter Try.func26, Try.ntmps26
  go_wp2_with (first | (at_builtin; refine wpl_append (v := .slice (some ⟨w.heap.size + 1 + 1 + 1, 0, none⟩) 0 0) (A := A) (m := n) (c := cap) rfl (.tmp 7) (.tmp 9) rfl F_entry_ref rfl rfl (OwnL.lit0 EntryK _ (fun _ => False) _ (w.heap.size + 3) (w.heap.size + 3) (new4 w _ _ _ _) (Nat.le_refl _)) (h.bound.below (below4 _ _ _ _ _)) (fun q hq _ e => by simp [Value.ownBlock] at e; omega) (by simp only [List.length_nil]; omega) (by simp) ?_; intro v1 w1 o1 g1 at1; have hcm := o1; obtain ⟨A1, k1, rfl, hk1⟩ := o1.len' (m := n) hlh.out; have hkm : k1 ≤ 9223372036854775807 := (by obtain ⟨A9, c9, hv9, hs9⟩ := hcm.slice' (m := n) hlh.out; simp only [Value.slice.injEq] at hv9; have := hs9.hm; omega); clear hcm; have hs1 : w.heap.size + 4 ≤ w1.heap.size := (by have := g1.size; simp at this; omega); have hbw : Below w.heap.size w w1 := (below4 w _ _ _ _).grown g1 (by simp <;> omega) (fun k hk => by simp [Value.ownBlock] at hk; omega); have hx0 := (g1.block w.heap.size (by simp <;> omega) (by simp [Value.ownBlock] <;> omega)).trans (alloc_heap hnew.1); have hx1 := (g1.block (w.heap.size + 1) (by simp <;> omega) (by simp [Value.ownBlock] <;> omega)).trans (alloc_heap hnew.2.1); have hx2 := (g1.block (w.heap.size + 2) (by simp <;> omega) (by simp [Value.ownBlock] <;> omega)).trans (alloc_heap hnew.2.2); obtain ⟨p0, p1, p2, p3, p4, pf⟩ := state_box hx0; obtain ⟨t0, t1, t2, t3, tf⟩ := record_box hx1; obtain ⟨u0, u1, u2, u3, u4, uf⟩ := state_box hx2))
  obtain ⟨A9, c9, hv9, hs9⟩ := o1.slice' (m := n) hlh.out
  simp only [Value.slice.injEq] at hv9
  obtain ⟨rfl, _, rfl⟩ := hv9
  refine bodyPost_ret (v := .tuple #[.agg #[.int .i64 s.view, .int .i64 s.normal, .int .i64 s.commit, .int .i64 s.active, .slice A1 m k1], .int .i64 0]) (by simp [results, Try.results26, go_sem, *]) rfl ⟨A1, m, k1, rfl, (hs9.take m x2).keep fun k hq _ => ?_, ?_⟩
  · have hk' : k < w.heap.size ∨ w.heap.size + 3 ≤ k := by
      rcases hq with ((hq | hq) | hq)
      · exact hq.elim
      · exact .inl hq.2
      · exact .inr (o1.own k hq.symm).1
    refine ⟨?_, ?_⟩
    · iterate 6 rw [Below.heap_setCell _ _ _ _ (by simp only []; omega)]
    · rcases hq with ((hq | hq) | hq)
      · exact hq.elim
      · exact .inl (.inl hq.1)
      · exact .inr (by have := (o1.own k hq.symm).1; simp only [New]; omega)
  · iterate 6 refine Below.setCell ?_ (by simp only []; omega) _
    exact hbw
set_option maxHeartbeats 2000000 in
theorem refApply_2 {S S3 : Nat → Prop} {w : World} {A : Option Addr} {n cap : Nat} (s : StateD) (r : RecordD) (A3 : Option Addr) (n3 c3 : Nat)
    (h : Sl EntryK S w A n cap s.log) (hn : n ≤ 64) (h3 : Sl EntryK S3 w A3 n3 c3 r.log) (hn3 : n3 = 1) (hk : r.kind = 2) (x1 : n < 64) :
    Calls Try.prog 26 #[.agg #[.int .i64 s.view, .int .i64 s.normal, .int .i64 s.commit, .int .i64 s.active, .slice A n cap], .agg #[.int .i64 r.kind, .int .i64 r.a, .int .i64 r.b, .slice A3 n3 c3]] w
      (RefEnds (fun k => (S k ∨ S3 k) ∨ New w k) w ({ s with log := s.log ++ r.log }, 0)) := by
  have hnew := new3 w (.cells #[.int .i64 s.view, .int .i64 s.normal, .int .i64 s.commit, .int .i64 s.active, .slice A n cap] 35) (.cells #[.int .i64 r.kind, .int .i64 r.a, .int .i64 r.b, .slice A3 n3 c3] 62) (.cells #[.int .i64 0, .int .i64 0, .int .i64 0, .int .i64 0, .slice none 0 0] 35)
  have hlh := Lib.hid h.hl
  have hb1 : (r.kind == 1) = false := by simp [hk]
  have hb2 : (r.kind == 2) = true := by simp [hk]
  have hb3 : (r.kind == 3) = false := by simp [hk]
  have hb4 : (r.kind == 4) = false := by simp [hk]
  have hb5 : (r.kind == 5) = false := by simp [hk]
  obtain ⟨x, b3, off3, B7, m7, d7, B8, m8, d8, hx, rfl, hS3', hlb3, f0, f1, f2, f3, f4, f5, f6, f7, f8, hs7, hs8⟩ := EntryK.at_ h3.bound 0 (by omega)
  simp only [Nat.zero_mul, Nat.add_zero] at f0 f1 f2 f3 f4 f5 f6 f7 f8
  have hrl : r.log = [x] := by
    have h1 := h3.hl
    cases hc : r.log with
    | nil => rw [hc] at h1; simp at h1; omega
    | cons y l =>
      rw [hc] at h1 hx
      have hy : y = x := by simpa using hx
      have hl : l = [] := List.eq_nil_of_length_eq_zero (by simp at h1; omega)
      rw [hy, hl]
  rw [hrl]
  clear hx hrl h3
  subst hn3
  clear hk
  go_enter Try.func26, Try.ntmps26
  go_wp2_with (first | (at_builtin; refine wpl_append (v := .slice (some ⟨w.heap.size + 1 + 1 + 1, 0, none⟩) 0 0) (A := A) (m := n) (c := cap) rfl (.tmp 7) (.tmp 9) rfl F_entry_ref rfl rfl (OwnL.lit0 EntryK _ (fun _ => False) _ (w.heap.size + 3) (w.heap.size + 3) (new4 w _ _ _ _) (Nat.le_refl _)) (h.bound.below (below4 _ _ _ _ _)) (fun q hq _ e => by simp [Value.ownBlock] at e; omega) (by simp only [List.length_nil]; omega) (by simp) ?_; intro v1 w1 o1 g1 at1; obtain ⟨A1, k1, rfl, hk1⟩ := o1.len' (m := n) hlh.out; have hs1 : w.heap.size + 4 ≤ w1.heap.size := (by have := g1.size; simp at this; omega); have hbw : Below w.heap.size w w1 := (below4 w _ _ _ _).grown g1 (by simp <;> omega) (fun k hk => by simp [Value.ownBlock] at hk; omega); have hx0 := (g1.block w.heap.size (by simp <;> omega) (by simp [Value.ownBlock] <;> omega)).trans (alloc_heap hnew.1); have hx1 := (g1.block (w.heap.size + 1) (by simp <;> omega) (by simp [Value.ownBlock] <;> omega)).trans (alloc_heap hnew.2.1); have hx2 := (g1.block (w.heap.size + 2) (by simp <;> omega) (by simp [Value.ownBlock] <;> omega)).trans (alloc_heap hnew.2.2); obtain ⟨p0, p1, p2, p3, p4, pf⟩ := state_box hx0; obtain ⟨t0, t1, t2, t3, tf⟩ := record_box hx1; obtain ⟨u0, u1, u2, u3, u4, uf⟩ := state_box hx2; have e0 := cellb hbw f0; have e1 := cellb hbw f1; have e2 := cellb hbw f2; have e3 := cellb hbw f3; have e4 := cellb hbw f4; have e5 := cellb hbw f5; have e6 := cellb hbw f6; have e7 := cellb hbw f7; have e8 := cellb hbw f8; have hR : EntryK.R (fun k => S3 k ∧ k < w.heap.size) w1 [.int .i64 x.view, .int .i64 x.client, .int .i64 x.request, .int .i64 x.delta.dflt, .int .i64 x.delta.closed, .int .i64 x.delta.fuel, .int .i64 x.delta.stack, .slice B7 m7 d7, .slice B8 m8 d8] x := ⟨B7, m7, d7, B8, m8, d8, rfl, hs7.below hbw, hs8.below hbw⟩; have hlb1 : b3 < w1.heap.size := (by omega)) | (at_builtin; refine wpl_append (v := .slice A1 n k1) (m := 1) (c := 1) rfl (.tmp 48) (.tmp 53) rfl F_entry_ref rfl rfl (o1.below (below1 _ _)) (Sl.boxAt hR _ w1.heap.size rfl) (fun q hq _ e => by have := o1.own q e.symm; rcases hq with ⟨_, hq⟩ | hq <;> omega) (by rw [show (([] : List EntryD) ++ s.log).length = n from hlh.out]; omega) (by simp <;> omega) ?_; intro v2 w2 o2 g2 at2; obtain ⟨A2, k2, rfl, hk2⟩ := o2.len' (m := n + 1) (by rw [List.length_append, show (([] : List EntryD) ++ s.log).length = n from hlh.out]; rfl); have hbw2 : Below w.heap.size w w2 := (bt hbw (below1 w1 _)).trans (grown_below g2 (fun k hk => by have := (o1.own k hk).1; omega) (by simp <;> omega)); have hs2 : w1.heap.size + 1 ≤ w2.heap.size := (by have := g2.size; simpa using this); have hown : ∀ k, (Value.slice A1 n k1).ownBlock = some k → w.heap.size + 3 ≤ k := fun k hk => (o1.own k hk).1; have hy0 := (g2.block w.heap.size (by simp <;> omega) (fun e => by have := hown _ e.symm; omega)).trans (alloc_heap hx0); have hy1 := (g2.block (w.heap.size + 1) (by simp <;> omega) (fun e => by have := hown _ e.symm; omega)).trans (alloc_heap hx1); have hy2 := (g2.block (w.heap.size + 2) (by simp <;> omega) (fun e => by have := hown _ e.symm; omega)).trans (alloc_heap hx2); obtain ⟨pp0, pp1, pp2, pp3, pp4, ppf⟩ := state_box hy0; obtain ⟨tt0, tt1, tt2, tt3, ttf⟩ := record_box hy1; obtain ⟨uu0, uu1, uu2, uu3, uu4, uuf⟩ := state_box hy2))
  obtain ⟨A9, c9, hv9, hs9⟩ := o2.slice' (m := n + 1) (by rw [List.length_append, show (([] : List EntryD) ++ s.log).length = n from hlh.out]; rfl)
  simp only [Value.slice.injEq] at hv9
  obtain ⟨rfl, _, rfl⟩ := hv9
  refine bodyPost_ret (v := .tuple #[.agg #[.int .i64 s.view, .int .i64 s.normal, .int .i64 s.commit, .int .i64 s.active, .slice A2 (n + 1) k2], .int .i64 0]) (by simp [results, Try.results26, go_sem, *]) rfl ⟨A2, n + 1, k2, rfl, hs9.keep fun k hq _ => ?_, ?_⟩
  · have hk' : (S k ∧ k < w.heap.size) ∨ (S3 k ∧ k < w.heap.size) ∨ w.heap.size + 3 ≤ k := by
      rcases hq with (((hq | hq) | (hq | hq)) | hq)
      · exact hq.elim
      · exact .inl hq
      · exact .inr (.inl hq)
      · exact .inr (.inr (by omega))
      · exact .inr (.inr (o2.own k hq.symm).1)
    refine ⟨?_, ?_⟩
    · iterate 6 rw [Below.heap_setCell _ _ _ _ (by simp only []; omega)]
    · rcases hk' with hk' | hk' | hk'
      · exact .inl (.inl hk'.1)
      · exact .inl (.inr hk'.1)
      · exact .inr (by simp only [New]; omega)
  · iterate 6 refine Below.setCell ?_ (by simp only []; omega) _
    exact hbw2
end Go.Proofs.Ytlgdiloddphgnaa
