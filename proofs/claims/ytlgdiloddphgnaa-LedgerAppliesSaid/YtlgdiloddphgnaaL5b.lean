/- The law LedgerApplies, walked. -/
import Derived.Test.YtlgdiloddphgnaaL5a
import Derived.Test.YtlgdiloddphgnaaAnchor13
import Derived.Deep.Cut
namespace Go.Proofs.Ytlgdiloddphgnaa
open Go.RowKit

theorem dc {w : World} {a : Addr} {v : Value} (h : w.cell? a = some v) : w.drew.cell? a = some v := h
theorem cells5 {w : World} {b b' o : Nat} {v u0 u1 u2 u3 u4 : Value} (h : w.cell? ⟨b', o, none⟩ = some v) (hne : b' ≠ b) : (((((w.setCell ⟨b, 0, none⟩ u0).setCell ⟨b, 1, none⟩ u1).setCell ⟨b, 2, none⟩ u2).setCell ⟨b, 3, none⟩ u3).setCell ⟨b, 4, none⟩ u4).cell? ⟨b', o, none⟩ = some v := by
  refine (World.cell?_of_block ?_).trans h
  iterate 5 rw [Below.heap_setCell _ _ _ _ hne]
theorem store5 {w : World} {b : Nat} {c0 c1 c2 c3 c4 : Value} {e : TypeId} (h : w.heap[b]? = some (.cells #[c0, c1, c2, c3, c4] e (0, 0))) (v0 v1 v2 v3 v4 : Value) :
    (((((w.setCell ⟨b, 0, none⟩ v0).setCell ⟨b, 1, none⟩ v1).setCell ⟨b, 2, none⟩ v2).setCell ⟨b, 3, none⟩ v3).setCell ⟨b, 4, none⟩ v4).heap[b]? = some (.cells #[v0, v1, v2, v3, v4] e (0, 0)) ∧
    (∀ k, k ≠ b → (((((w.setCell ⟨b, 0, none⟩ v0).setCell ⟨b, 1, none⟩ v1).setCell ⟨b, 2, none⟩ v2).setCell ⟨b, 3, none⟩ v3).setCell ⟨b, 4, none⟩ v4).heap[k]? = w.heap[k]?) ∧
    (∀ (B : Nat) (a : World), B ≤ b → Below B a w → Below B a (((((w.setCell ⟨b, 0, none⟩ v0).setCell ⟨b, 1, none⟩ v1).setCell ⟨b, 2, none⟩ v2).setCell ⟨b, 3, none⟩ v3).setCell ⟨b, 4, none⟩ v4)) := by
  refine ⟨setCell_box (setCell_box (setCell_box (setCell_box (setCell_box h v0) v1) v2) v3) v4, fun k hk => ?_, fun B a hB hw => ?_⟩
  · iterate 5 rw [Below.heap_setCell _ _ _ _ hk]
  · iterate 5 refine Below.setCell ?_ hB _
    exact hw
set_option maxHeartbeats 400000 in
theorem applies_any {S S3 : Nat → Prop} {w : World} {A : Option Addr} {n cap : Nat} (s : StateD) (r : RecordD) (A3 : Option Addr) (n3 c3 : Nat)
    (h : Sl EntryK S w A n cap s.log) (h3 : Sl EntryK S3 w A3 n3 c3 r.log) :
    Calls Try.prog 5 #[.agg #[.int .i64 s.view, .int .i64 s.normal, .int .i64 s.commit, .int .i64 s.active, .slice A n cap], .agg #[.int .i64 r.kind, .int .i64 r.a, .int .i64 r.b, .slice A3 n3 c3]] w
      (fun e w' => e = .returned (.bool true) ∧ Below w.heap.size w w') := by
  have hnew := new2 w (.cells #[.int .i64 s.view, .int .i64 s.normal, .int .i64 s.commit, .int .i64 s.active, .slice A n cap] 24) (.cells #[.int .i64 r.kind, .int .i64 r.a, .int .i64 r.b, .slice A3 n3 c3] 57)
  have hb0 := below2 w (.cells #[.int .i64 s.view, .int .i64 s.normal, .int .i64 s.commit, .int .i64 s.active, .slice A n cap] 24) (.cells #[.int .i64 r.kind, .int .i64 r.a, .int .i64 r.b, .slice A3 n3 c3] 57)
  have hz0 : ((w.alloc (.cells #[.int .i64 s.view, .int .i64 s.normal, .int .i64 s.commit, .int .i64 s.active, .slice A n cap] 24)).alloc (.cells #[.int .i64 r.kind, .int .i64 r.a, .int .i64 r.b, .slice A3 n3 c3] 57)).heap.size = w.heap.size + 2 := by simp
  go_enter Try.func5, Try.ntmps5
  go_wp2_with (fail)
  generalize ((w.alloc (.cells #[.int .i64 s.view, .int .i64 s.normal, .int .i64 s.commit, .int .i64 s.active, .slice A n cap] 24)).alloc (.cells #[.int .i64 r.kind, .int .i64 r.a, .int .i64 r.b, .slice A3 n3 c3] 57)) = w0 at hnew hb0 hz0 ⊢
  have h0 := h.below hb0
  have k0 := h3.below hb0
  go_at_call 7
  refine (anchor13_any w0).mono ?_
  rintro e w1 ⟨rfl, hb1⟩
  have hf1 := state_box ((hb1.block w.heap.size (by omega)).trans hnew.1)
  have hr1 := record_box ((hb1.block (w.heap.size + 1) (by omega)).trans hnew.2)
  obtain ⟨x0, x1, x2, x3, x4, xf⟩ := hf1
  go_wp2_with (fail)
  have hg8 := smallState_any s A n cap w1 (h0.below hb1)
  cases hs : smallLog s.log
  · rw [hs] at hg8
    go_at_call 8
    refine hg8.mono ?_
    rintro e w2 ⟨rfl, hb2⟩
    go_wp2_with (fail)
    go_ret
    exact ⟨rfl, hb0.trans ((bt hb1 hb2).mono hb0.size)⟩
  rw [hs] at hg8
  go_at_call 8
  refine hg8.mono ?_
  rintro e w2 ⟨rfl, hb2⟩
  clear x0 x1 x2 x3 x4 xf hr1 hg8
  have B2 := bt hb1 hb2
  clear hb1 hb2
  obtain ⟨v0, v1, v2, v3, vf⟩ := record_box ((B2.block (w.heap.size + 1) (by omega)).trans hnew.2)
  go_wp2_with (fail)
  have hg20 := smallLog_any w2 (k0.below B2)
  cases hs3 : smallLog r.log
  · rw [hs3] at hg20
    go_at_call 20
    refine hg20.mono ?_
    rintro e w3 ⟨rfl, hb3⟩
    go_wp2_with (fail)
    go_ret
    exact ⟨rfl, hb0.trans ((bt B2 hb3).mono hb0.size)⟩
  rw [hs3] at hg20
  go_at_call 20
  refine hg20.mono ?_
  rintro e w3 ⟨rfl, hb3⟩
  have B3 := bt B2 hb3
  clear v0 v1 v2 v3 vf hg20 hb3 B2
  obtain ⟨x0, x1, x2, x3, x4, xf⟩ := state_box ((B3.block w.heap.size (by omega)).trans hnew.1)
  obtain ⟨v0, v1, v2, v3, vf⟩ := record_box ((B3.block (w.heap.size + 1) (by omega)).trans hnew.2)
  go_wp2_with (fail)
  have hg21 := Apply_any s r A3 n3 c3 (h0.below B3) (k0.below B3)
  obtain ⟨o, ho⟩ := veil (applyAll s r)
  rw [← ho.out] at hg21
  go_at_call 21
  refine hg21.mono ?_
  rintro e w4 ⟨A5, n5, c5, rfl, hl5, hb4⟩
  have B4 := bt B3 hb4
  clear x0 x1 x2 x3 x4 xf v0 v1 v2 v3 vf hg21
  have hs4 := B4.size
  obtain ⟨x0, x1, x2, x3, x4, xf⟩ := state_box ((B4.block w.heap.size (by omega)).trans hnew.1)
  go_upto_region 6 with (fail)
  have hn5 := heap_alloc_new w4 (.cells #[.int .i64 o.1.view, .int .i64 o.1.normal, .int .i64 o.1.commit, .int .i64 o.1.active, .slice A5 n5 c5] 24)
  have B5 := bt B4 (below1 w4 (.cells #[.int .i64 o.1.view, .int .i64 o.1.normal, .int .i64 o.1.commit, .int .i64 o.1.active, .slice A5 n5 c5] 24))
  have hl6 := hl5.below (below1 w4 (.cells #[.int .i64 o.1.view, .int .i64 o.1.normal, .int .i64 o.1.commit, .int .i64 o.1.active, .slice A5 n5 c5] 24))
  have hs5 : (w4.alloc (.cells #[.int .i64 o.1.view, .int .i64 o.1.normal, .int .i64 o.1.commit, .int .i64 o.1.active, .slice A5 n5 c5] 24)).heap.size = w4.heap.size + 1 := by simp
  generalize w4.alloc (.cells #[.int .i64 o.1.view, .int .i64 o.1.normal, .int .i64 o.1.commit, .int .i64 o.1.active, .slice A5 n5 c5] 24) = w5 at hn5 B5 hl6 hs5 ⊢
  clear x0 x1 x2 x3 x4 xf hl5 hb4 B4
  obtain ⟨x0, x1, x2, x3, x4, xf⟩ := state_box ((B5.block w.heap.size (by omega)).trans hnew.1)
  obtain ⟨hn70, hsm⟩ := smallLog_facts h.hl hs
  go_upto_region 7 with (first | (go_at_call 11; refine (madeState_any s w5 A n cap (h0.below B5).bound hn70 hsm).mono ?_; rintro e w6 ⟨A6, c6, rfl, hl7, hb6⟩))
  have hs6 := hb6.size
  have hb7 := below1 w6 (.cells #[.int .i64 s.view, .int .i64 s.normal, .int .i64 s.commit, .int .i64 s.active, .slice A6 n c6] 35)
  have B7 := bt (bt B5 hb6) hb7
  have hn7 := heap_alloc_new w6 (.cells #[.int .i64 s.view, .int .i64 s.normal, .int .i64 s.commit, .int .i64 s.active, .slice A6 n c6] 35)
  have q5 := ((bt hb6 hb7).block w4.heap.size (by omega)).trans hn5
  have hlx := hl7.below hb7
  have hly := hl6.below (bt hb6 hb7)
  have hs7 : (w6.alloc (.cells #[.int .i64 s.view, .int .i64 s.normal, .int .i64 s.commit, .int .i64 s.active, .slice A6 n c6] 35)).heap.size = w6.heap.size + 1 := by simp
  generalize w6.alloc (.cells #[.int .i64 s.view, .int .i64 s.normal, .int .i64 s.commit, .int .i64 s.active, .slice A6 n c6] 35) = w7 at B7 hn7 q5 hlx hly hs7 hb7 ⊢
  clear x0 x1 x2 x3 x4 xf hn5 hl6 hl7
  obtain ⟨x0, x1, x2, x3, x4, xf⟩ := state_box ((B7.block w.heap.size (by omega)).trans hnew.1)
  obtain ⟨y0, y1, y2, y3, y4, yf⟩ := state_box hn7
  have hg22 := fun (W : World) (hW : Below w7.heap.size w7 W) => stateRight_any s A n cap W ((h0.below B7).below hW)
  have hg23 := fun (W : World) (hW : Below w7.heap.size w7 W) => stateRight_ref s A6 n c6 W (hlx.below hW)
  have key : ∀ b : Bool, stateRight s = b → (∀ W, Below w7.heap.size w7 W → Calls Try.prog 22 #[.agg #[.int .i64 s.view, .int .i64 s.normal, .int .i64 s.commit, .int .i64 s.active, .slice A n cap]] W fun e w' => e = .returned (.bool b) ∧ Below W.heap.size W w') ∧ (∀ W, Below w7.heap.size w7 W → Calls Try.prog 23 #[.agg #[.int .i64 s.view, .int .i64 s.normal, .int .i64 s.commit, .int .i64 s.active, .slice A6 n c6]] W fun e w' => e = .returned (.bool b) ∧ Below W.heap.size W w') := by
    rintro b rfl
    exact ⟨hg22, hg23⟩
  clear hg22 hg23
  cases hR : stateRight s
  · obtain ⟨hg22, hg23⟩ := key _ hR
    have eo : o = (zeroS, 10) := by rw [ho.out, applyAll, if_neg (fun hh => by simp [hR] at hh)]
    have e2 : o.2 = 10 := by rw [eo]
    have e1 := Lib.hid (show o.1 = zeroS by rw [eo])
    clear eo
    have hwl : ∀ W, Below w7.heap.size w7 W → Calls Try.prog 14 #[.agg #[.int .i64 o.1.view, .int .i64 o.1.normal, .int .i64 o.1.commit, .int .i64 o.1.active, .slice A5 n5 c5], .agg #[.int .i64 0, .int .i64 0, .int .i64 0, .int .i64 0, .slice none 0 0]] W fun e w' => e = .returned (.bool true) ∧ Below W.heap.size W w' := by
      have hz := e1.out
      have hzl : o.1.log = [] := by rw [hz]; rfl
      intro W hW
      refine (lawSame_any o.1 zeroS (hly.below hW) (Sl.nil EntryK (fun _ => True) W none 0 (by omega)) (by have := hly.hl; rw [hzl] at this; simp at this; omega) (fun x hx => by rw [hzl] at hx; cases hx)).mono ?_
      rintro e w' ⟨rfl, hb⟩
      exact ⟨by rw [hz, eqB_refl], hb⟩
    clear hR key
    go_region_held3 (fun w' : World => w'.cell? ⟨w.heap.size, 0, none⟩ = some (.int .i64 s.view) ∧ w'.cell? ⟨w.heap.size, 1, none⟩ = some (.int .i64 s.normal) ∧ w'.cell? ⟨w.heap.size, 2, none⟩ = some (.int .i64 s.commit) ∧ w'.cell? ⟨w.heap.size, 3, none⟩ = some (.int .i64 s.active) ∧ w'.cell? ⟨w.heap.size, 4, none⟩ = some (.slice A n cap) ∧ w'.cell? ⟨w6.heap.size, 0, none⟩ = some (.int .i64 s.view) ∧ w'.cell? ⟨w6.heap.size, 1, none⟩ = some (.int .i64 s.normal) ∧ w'.cell? ⟨w6.heap.size, 2, none⟩ = some (.int .i64 s.commit) ∧ w'.cell? ⟨w6.heap.size, 3, none⟩ = some (.int .i64 s.active) ∧ w'.cell? ⟨w6.heap.size, 4, none⟩ = some (.slice A6 n c6))
      (first | with_reducible exact ⟨cellb hb9 p0, cellb hb9 p1, cellb hb9 p2, cellb hb9 p3, cellb hb9 p4, cellb hb9 r0, cellb hb9 r1, cellb hb9 r2, cellb hb9 r3, cellb hb9 r4⟩ | with_reducible exact ⟨p0, p1, p2, p3, p4, r0, r1, r2, r3, r4⟩ | with_reducible exact ⟨x0, x1, x2, x3, x4, y0, y1, y2, y3, y4⟩ | go_keep)
      (first | (go_at_call 22; refine (hg22 _ (Below.refl _ _).drew).mono ?_; rintro e w8 ⟨rfl, hb8⟩; have C8 := (Below.refl w7.heap.size w7).drew.trans hb8; obtain ⟨p0, p1, p2, p3, p4, pf⟩ := state_box ((hb8.block w.heap.size (by simp <;> omega)).trans ((B7.block w.heap.size (by omega)).trans hnew.1)); obtain ⟨r0, r1, r2, r3, r4, rf⟩ := state_box ((hb8.block w6.heap.size (by simp <;> omega)).trans hn7)) | (go_at_call 23; refine (hg23 _ C8).mono ?_; rintro e w9 ⟨rfl, hb9⟩))
    have C9 := C8.trans (hb9.mono C8.size)
    clear x0 x1 x2 x3 x4 xf y0 y1 y2 y3 y4 yf p0 p1 p2 p3 p4 pf r0 r1 r2 r3 r4 rf
    obtain ⟨y0, y1, y2, y3, y4, yf⟩ := state_box ((C9.block w6.heap.size (by omega)).trans hn7)
    go_wp2_with (go_at_call 23; refine (hg23 _ C9).mono ?_; rintro e w10 ⟨rfl, hb10⟩; have C10 := C9.trans (hb10.mono C9.size); obtain ⟨z0, z1, z2, z3, z4, zf⟩ := state_box ((C10.block w4.heap.size (by omega)).trans q5))
    go_at_call 14
    refine (hwl _ C10).mono ?_
    rintro e w11 ⟨rfl, hb11⟩
    go_wp2_with (fail)
    go_ret
    exact ⟨rfl, hb0.trans ((B7.trans ((C10.trans (hb11.mono C10.size)).mono B7.size)).mono hb0.size)⟩
  obtain ⟨hg22, hg23⟩ := key _ hR
  clear key
  go_region_held3 (fun w' : World => w'.cell? ⟨w.heap.size, 0, none⟩ = some (.int .i64 s.view) ∧ w'.cell? ⟨w.heap.size, 1, none⟩ = some (.int .i64 s.normal) ∧ w'.cell? ⟨w.heap.size, 2, none⟩ = some (.int .i64 s.commit) ∧ w'.cell? ⟨w.heap.size, 3, none⟩ = some (.int .i64 s.active) ∧ w'.cell? ⟨w.heap.size, 4, none⟩ = some (.slice A n cap) ∧ w'.cell? ⟨w6.heap.size, 0, none⟩ = some (.int .i64 s.view) ∧ w'.cell? ⟨w6.heap.size, 1, none⟩ = some (.int .i64 s.normal) ∧ w'.cell? ⟨w6.heap.size, 2, none⟩ = some (.int .i64 s.commit) ∧ w'.cell? ⟨w6.heap.size, 3, none⟩ = some (.int .i64 s.active) ∧ w'.cell? ⟨w6.heap.size, 4, none⟩ = some (.slice A6 n c6))
    (first | with_reducible exact ⟨cellb hb9 p0, cellb hb9 p1, cellb hb9 p2, cellb hb9 p3, cellb hb9 p4, cellb hb9 r0, cellb hb9 r1, cellb hb9 r2, cellb hb9 r3, cellb hb9 r4⟩ | with_reducible exact ⟨p0, p1, p2, p3, p4, r0, r1, r2, r3, r4⟩ | with_reducible exact ⟨x0, x1, x2, x3, x4, y0, y1, y2, y3, y4⟩ | go_keep)
    (first | (go_at_call 22; refine (hg22 _ (Below.refl _ _).drew).mono ?_; rintro e w8 ⟨rfl, hb8⟩; have C8 := (Below.refl w7.heap.size w7).drew.trans hb8; obtain ⟨p0, p1, p2, p3, p4, pf⟩ := state_box ((hb8.block w.heap.size (by simp <;> omega)).trans ((B7.block w.heap.size (by omega)).trans hnew.1)); obtain ⟨r0, r1, r2, r3, r4, rf⟩ := state_box ((hb8.block w6.heap.size (by simp <;> omega)).trans hn7)) | (go_at_call 23; refine (hg23 _ C8).mono ?_; rintro e w9 ⟨rfl, hb9⟩))
  have C9 := C8.trans (hb9.mono C8.size)
  clear x0 x1 x2 x3 x4 xf y0 y1 y2 y3 y4 yf p0 p1 p2 p3 p4 pf r0 r1 r2 r3 r4 rf
  obtain ⟨y0, y1, y2, y3, y4, yf⟩ := state_box ((C9.block w6.heap.size (by omega)).trans hn7)
  obtain ⟨hn70r, hsmr⟩ := smallLog_facts h3.hl hs3
  go_wp2_with (first | (go_at_call 23; refine (hg23 _ C9).mono ?_; rintro e w10 ⟨rfl, hb10⟩; have C10 := C9.trans (hb10.mono C9.size); obtain ⟨v0, v1, v2, v3, vf⟩ := record_box ((C10.block (w.heap.size + 1) (by omega)).trans ((B7.block (w.heap.size + 1) (by omega)).trans hnew.2))) | (go_at_call 24; refine (madeRecord_any r w10 A3 n3 c3 ((k0.below B7).below C10) hn70r hsmr).mono ?_; rintro e w11 ⟨A7, c7, rfl, hl8, hb11⟩; have C11 := C10.trans (hb11.mono C10.size)))
  have hg25 := recordRight_ref r A7 n3 c7 w11 hl8
  cases hRr : recordRight r
  · rw [hRr] at hg25
    have eo : o = (zeroS, 10) := by rw [ho.out, applyAll, if_neg (fun hh => by simp [hRr] at hh)]
    have e2 : o.2 = 10 := by rw [eo]
    have e1 := Lib.hid (show o.1 = zeroS by rw [eo])
    clear eo
    have hwl : ∀ W, Below w7.heap.size w7 W → Calls Try.prog 14 #[.agg #[.int .i64 o.1.view, .int .i64 o.1.normal, .int .i64 o.1.commit, .int .i64 o.1.active, .slice A5 n5 c5], .agg #[.int .i64 0, .int .i64 0, .int .i64 0, .int .i64 0, .slice none 0 0]] W fun e w' => e = .returned (.bool true) ∧ Below W.heap.size W w' := by
      have hz := e1.out
      have hzl : o.1.log = [] := by rw [hz]; rfl
      intro W hW
      refine (lawSame_any o.1 zeroS (hly.below hW) (Sl.nil EntryK (fun _ => True) W none 0 (by omega)) (by have := hly.hl; rw [hzl] at this; simp at this; omega) (fun x hx => by rw [hzl] at hx; cases hx)).mono ?_
      rintro e w' ⟨rfl, hb⟩
      exact ⟨by rw [hz, eqB_refl], hb⟩
    clear hRr
    go_at_call 25
    refine hg25.mono ?_
    rintro e w12 ⟨rfl, hb12⟩
    have C12 := C11.trans (hb12.mono C11.size)
    obtain ⟨z0, z1, z2, z3, z4, zf⟩ := state_box ((C12.block w4.heap.size (by omega)).trans q5)
    go_wp2_with (fail)
    go_at_call 14
    refine (hwl _ C12).mono ?_
    rintro e w13 ⟨rfl, hb13⟩
    go_wp2_with (fail)
    go_ret
    exact ⟨rfl, hb0.trans ((B7.trans ((C12.trans (hb13.mono C12.size)).mono B7.size)).mono hb0.size)⟩
  rw [hRr] at hg25
  have hok := appliedOk hR hRr
  rw [← ho.out] at hok
  go_at_call 25
  refine hg25.mono ?_
  rintro e w12 ⟨rfl, hb12⟩
  have C12 := C11.trans (hb12.mono C11.size)
  clear y0 y1 y2 y3 y4 yf v0 v1 v2 v3 vf hg25 hg22 hg23 hl8
  have hs12 := C12.size
  have n7 := (C12.block w6.heap.size (by omega)).trans hn7
  have nr := (C12.block (w.heap.size + 1) (by omega)).trans ((B7.block (w.heap.size + 1) (by omega)).trans hnew.2)
  have hq5 := (C12.block w4.heap.size (by omega)).trans q5
  have hr12 := ((k0.below B7).below C12).bound.mono (S' := fun k => k < w12.heap.size) (fun k hk => hk.2)
  have hx12 := (hlx.below C12).bound.mono (S' := fun k => k < w12.heap.size) (fun k hk => hk.2)
  have hY12 := hly.below C12
  have hg26 := fun (W : World) (S9 : Nat → Prop) (hW : Below w12.heap.size w12 W) {A9 : Option Addr} {c9 : Nat} (hl9 : Sl EntryK S9 W A9 n3 c9 r.log) => refApply_any s r A9 n3 c9 (hx12.below hW) (stateRight_small h.hl hR).1 hl9 hRr
  rw [hok.same] at hg26
  obtain ⟨p0, p1, p2, p3, p4, pf⟩ := state_box n7
  obtain ⟨r0, r1, r2, r3, rf⟩ := record_box nr
  have hrt := hok.right
  have hg14 : ∀ (W : World), Below w7.heap.size w7 W → ∀ {S9 : Nat → Prop} {A8 : Option Addr} {n8 c8 : Nat}, Sl EntryK S9 W A8 n8 c8 o.1.log → Calls Try.prog 14 #[.agg #[.int .i64 o.1.view, .int .i64 o.1.normal, .int .i64 o.1.commit, .int .i64 o.1.active, .slice A5 n5 c5], .agg #[.int .i64 o.1.view, .int .i64 o.1.normal, .int .i64 o.1.commit, .int .i64 o.1.active, .slice A8 n8 c8]] W fun e w' => e = .returned (.bool true) ∧ Below W.heap.size W w' := by
    intro W hW S9 A8 n8 c8 hl
    refine (lawSame_any o.1 o.1 (hly.below hW) hl (by have := hly.hl; have := hok.len; omega) hok.small).mono ?_
    rintro e w' ⟨rfl, hb⟩
    exact ⟨by rw [eqB_refl], hb⟩
  clear hok hR hRr ho
  go_wp2_with (fail)
  go_region_held3 (fun w' : World => w'.cell? ⟨w6.heap.size, 0, none⟩ = some (.int .i64 s.view) ∧ w'.cell? ⟨w6.heap.size, 1, none⟩ = some (.int .i64 s.normal) ∧ w'.cell? ⟨w6.heap.size, 2, none⟩ = some (.int .i64 s.commit) ∧ w'.cell? ⟨w6.heap.size, 3, none⟩ = some (.int .i64 s.active) ∧ w'.cell? ⟨w6.heap.size, 4, none⟩ = some (.slice A6 n c6) ∧ w'.cell? ⟨w.heap.size + 1, 0, none⟩ = some (.int .i64 r.kind) ∧ w'.cell? ⟨w.heap.size + 1, 1, none⟩ = some (.int .i64 r.a) ∧ w'.cell? ⟨w.heap.size + 1, 2, none⟩ = some (.int .i64 r.b) ∧ w'.cell? ⟨w.heap.size + 1, 3, none⟩ = some (.slice A3 n3 c3))
      (first | with_reducible exact ⟨p0, p1, p2, p3, p4, r0, r1, r2, r3⟩ | with_reducible exact ⟨dc p0, dc p1, dc p2, dc p3, dc p4, dc r0, dc r1, dc r2, dc r3⟩ | with_reducible exact ⟨dc (cellb (below1 _ _) p0), dc (cellb (below1 _ _) p1), dc (cellb (below1 _ _) p2), dc (cellb (below1 _ _) p3), dc (cellb (below1 _ _) p4), dc (cellb (below1 _ _) r0), dc (cellb (below1 _ _) r1), dc (cellb (below1 _ _) r2), dc (cellb (below1 _ _) r3)⟩ | with_reducible exact ⟨cells5 p0 (by omega), cells5 p1 (by omega), cells5 p2 (by omega), cells5 p3 (by omega), cells5 p4 (by omega), cells5 r0 (by omega), cells5 r1 (by omega), cells5 r2 (by omega), cells5 r3 (by omega)⟩ | with_reducible exact ⟨cellb (below1 _ _) p0, cellb (below1 _ _) p1, cellb (below1 _ _) p2, cellb (below1 _ _) p3, cellb (below1 _ _) p4, cellb (below1 _ _) r0, cellb (below1 _ _) r1, cellb (below1 _ _) r2, cellb (below1 _ _) r3⟩)
      (first | (go_at_call 24; have D12 : Below w12.heap.size w12 (w12.alloc (.cells #[.int .i64 0, .int .i64 0, .int .i64 0, .int .i64 0, .slice none 0 0] 35)).drew := (below1 _ _).drew; refine (madeRecord_any r (w12.alloc (.cells #[.int .i64 0, .int .i64 0, .int .i64 0, .int .i64 0, .slice none 0 0] 35)).drew A3 n3 c3 (hr12.below D12) hn70r hsmr).mono ?_; rintro e w13 ⟨A9, c9, rfl, hl9, hb13⟩; have D13 := D12.trans (hb13.mono D12.size); obtain ⟨p0, p1, p2, p3, p4, pf⟩ := state_box ((D13.block w6.heap.size (by omega)).trans n7); obtain ⟨r0, r1, r2, r3, rf⟩ := record_box ((D13.block (w.heap.size + 1) (by omega)).trans nr); have hB8 : w13.heap[w12.heap.size]? = some (.cells #[.int .i64 0, .int .i64 0, .int .i64 0, .int .i64 0, .slice none 0 0] 35) := (hb13.block w12.heap.size (by simp)).trans (by have := heap_alloc_new w12 (.cells #[.int .i64 0, .int .i64 0, .int .i64 0, .int .i64 0, .slice none 0 0] 35); exact this); have hl9' := hl9.mono (S' := fun k => k ≠ w12.heap.size) (by intro k hk; simp [New] at hk; omega)) | (go_at_call 24; have D12 : Below w12.heap.size w12 w12.drew := (Below.refl _ _).drew; refine (madeRecord_any r w12.drew A3 n3 c3 (hr12.below D12) hn70r hsmr).mono ?_; rintro e w13 ⟨A9, c9, rfl, hl9, hb13⟩; have D13 := D12.trans (hb13.mono D12.size); obtain ⟨p0, p1, p2, p3, p4, pf⟩ := state_box ((D13.block w6.heap.size (by omega)).trans n7); obtain ⟨r0, r1, r2, r3, rf⟩ := record_box ((D13.block (w.heap.size + 1) (by omega)).trans nr); have hl9' := hl9.bound.mono (S' := fun k => k < w13.heap.size) (fun k hk => hk.2)) | (go_at_call 26; have D13' := D13; have hs13 := D13.size; refine (hg26 w13 _ D13' hl9').mono ?_; rintro e w14 ⟨A8, n8, c8, rfl, hl10, hb14⟩; have D14 := D13'.trans (hb14.mono D13'.size); have hs14 := D14.size; have C14 := C12.trans (D14.mono C12.size); obtain ⟨p0, p1, p2, p3, p4, pf⟩ := state_box ((D14.block w6.heap.size (by omega)).trans n7); obtain ⟨r0, r1, r2, r3, rf⟩ := record_box ((D14.block (w.heap.size + 1) (by omega)).trans nr); have hB9 := (hb14.block w12.heap.size ((Array.getElem?_eq_some_iff.1 hB8).1)).trans hB8; obtain ⟨z0, z1, z2, z3, z4, zf⟩ := state_box hB9; have hY := hl10.mono (S' := fun k => k ≠ w12.heap.size) (by have := (Array.getElem?_eq_some_iff.1 hB8).1; intro k hk; simp [New] at hk; omega)) | (go_at_call 26; have D13' : Below w12.heap.size w12 (w13.alloc (.cells #[.int .i64 0, .int .i64 0, .int .i64 0, .int .i64 0, .slice none 0 0] 35)) := D13.alloc D13.size _; have hs13 := D13.size; refine (hg26 (w13.alloc (.cells #[.int .i64 0, .int .i64 0, .int .i64 0, .int .i64 0, .slice none 0 0] 35)) _ D13' (hl9'.below (below1 _ _))).mono ?_; rintro e w14 ⟨A8, n8, c8, rfl, hl10, hb14⟩; have D14 := D13'.trans (hb14.mono D13'.size); have hs14 := D14.size; have C14 := C12.trans (D14.mono C12.size); obtain ⟨p0, p1, p2, p3, p4, pf⟩ := state_box ((D14.block w6.heap.size (by omega)).trans n7); obtain ⟨r0, r1, r2, r3, rf⟩ := record_box ((D14.block (w.heap.size + 1) (by omega)).trans nr); have hB9 := (hb14.block w13.heap.size (by simp)).trans (heap_alloc_new w13 (.cells #[.int .i64 0, .int .i64 0, .int .i64 0, .int .i64 0, .slice none 0 0] 35)); obtain ⟨z0, z1, z2, z3, z4, zf⟩ := state_box hB9; have hY := hl10.mono (S' := fun k => k ≠ w13.heap.size) (by intro k hk; simp [New] at hk; omega)) | (go_at_call 26; have D13' := D13; have hs13 := D13.size; refine (hg26 w13 _ D13' hl9').mono ?_; rintro e w14 ⟨A8, n8, c8, rfl, hl10, hb14⟩; have D14 := D13'.trans (hb14.mono D13'.size); have hs14 := D14.size; have C14 := C12.trans (D14.mono C12.size); obtain ⟨p0, p1, p2, p3, p4, pf⟩ := state_box ((D14.block w6.heap.size (by omega)).trans n7); obtain ⟨r0, r1, r2, r3, rf⟩ := record_box ((D14.block (w.heap.size + 1) (by omega)).trans nr); have hY := hl10.bound.mono (S' := fun k => k < w14.heap.size) (fun k hk => hk.2)))
  · have hT := heap_alloc_new w14 (.cells #[.int .i64 o.1.view, .int .i64 o.1.normal, .int .i64 o.1.commit, .int .i64 o.1.active, .slice A8 n8 c8] 35)
    have C15 := C14.alloc C14.size (.cells #[.int .i64 o.1.view, .int .i64 o.1.normal, .int .i64 o.1.commit, .int .i64 o.1.active, .slice A8 n8 c8] 35)
    have hY15 := hY.below (below1 w14 (.cells #[.int .i64 o.1.view, .int .i64 o.1.normal, .int .i64 o.1.commit, .int .i64 o.1.active, .slice A8 n8 c8] 35))
    generalize w14.alloc (.cells #[.int .i64 o.1.view, .int .i64 o.1.normal, .int .i64 o.1.commit, .int .i64 o.1.active, .slice A8 n8 c8] 35) = w15 at hT C15 hY15 ⊢
    clear hb14 hl10 hY
    obtain ⟨z0, z1, z2, z3, z4, zf⟩ := state_box hT
    obtain ⟨y0, y1, y2, y3, y4, yf⟩ := state_box ((C15.block w4.heap.size (by omega)).trans q5)
    go_wp2_with (fail)
    go_at_call 14
    refine (hg14 w15 C15 hY15).mono ?_
    rintro e w16 ⟨rfl, hb16⟩
    have C16 := C15.trans (hb16.mono C15.size)
    clear z0 z1 z2 z3 z4 zf y0 y1 y2 y3 y4 yf
    obtain ⟨y0, y1, y2, y3, y4, yf⟩ := state_box ((C16.block w4.heap.size (by omega)).trans q5)
    rcases hrt with hne | hrt
    · go_wp2_with (fail)
      go_ret
      exact ⟨rfl, hb0.trans ((B7.trans (C16.mono B7.size)).mono hb0.size)⟩
    · have hg22 := stateRight_any o.1 A5 n5 c5 w16 (hly.below C16)
      rw [hrt] at hg22
      by_cases hne : o.2 = 0
      · go_wp2_with (go_at_call 22; refine hg22.mono ?_; rintro e w17 ⟨rfl, hb17⟩)
        go_ret
        exact ⟨rfl, hb0.trans ((B7.trans ((C16.trans (hb17.mono C16.size)).mono B7.size)).mono hb0.size)⟩
      · go_wp2_with (fail)
        go_ret
        exact ⟨rfl, hb0.trans ((B7.trans (C16.mono B7.size)).mono hb0.size)⟩
  · obtain ⟨hT, hK, hS⟩ := store5 hB9 (.int .i64 o.1.view) (.int .i64 o.1.normal) (.int .i64 o.1.commit) (.int .i64 o.1.active) (.slice A8 n8 c8)
    have C15 := hS _ _ (show w7.heap.size ≤ w13.heap.size from by omega) C14
    have hY15 := hY.keep (w' := (((((w14.setCell ⟨w13.heap.size, 0, none⟩ (.int .i64 o.1.view)).setCell ⟨w13.heap.size, 1, none⟩ (.int .i64 o.1.normal)).setCell ⟨w13.heap.size, 2, none⟩ (.int .i64 o.1.commit)).setCell ⟨w13.heap.size, 3, none⟩ (.int .i64 o.1.active)).setCell ⟨w13.heap.size, 4, none⟩ (.slice A8 n8 c8))) (S' := fun k => k ≠ w13.heap.size) (fun k hk _ => ⟨hK k hk, hk⟩)
    clear hK hS
    generalize (((((w14.setCell ⟨w13.heap.size, 0, none⟩ (.int .i64 o.1.view)).setCell ⟨w13.heap.size, 1, none⟩ (.int .i64 o.1.normal)).setCell ⟨w13.heap.size, 2, none⟩ (.int .i64 o.1.commit)).setCell ⟨w13.heap.size, 3, none⟩ (.int .i64 o.1.active)).setCell ⟨w13.heap.size, 4, none⟩ (.slice A8 n8 c8)) = w15 at hT C15 hY15 ⊢
    clear hb14 hl10 z0 z1 z2 z3 z4 zf hB9 hY
    obtain ⟨z0, z1, z2, z3, z4, zf⟩ := state_box hT
    obtain ⟨y0, y1, y2, y3, y4, yf⟩ := state_box ((C15.block w4.heap.size (by omega)).trans q5)
    go_wp2_with (fail)
    go_at_call 14
    refine (hg14 w15 C15 hY15).mono ?_
    rintro e w16 ⟨rfl, hb16⟩
    have C16 := C15.trans (hb16.mono C15.size)
    clear z0 z1 z2 z3 z4 zf y0 y1 y2 y3 y4 yf
    obtain ⟨y0, y1, y2, y3, y4, yf⟩ := state_box ((C16.block w4.heap.size (by omega)).trans q5)
    rcases hrt with hne | hrt
    · go_wp2_with (fail)
      go_ret
      exact ⟨rfl, hb0.trans ((B7.trans (C16.mono B7.size)).mono hb0.size)⟩
    · have hg22 := stateRight_any o.1 A5 n5 c5 w16 (hly.below C16)
      rw [hrt] at hg22
      by_cases hne : o.2 = 0
      · go_wp2_with (go_at_call 22; refine hg22.mono ?_; rintro e w17 ⟨rfl, hb17⟩)
        go_ret
        exact ⟨rfl, hb0.trans ((B7.trans ((C16.trans (hb17.mono C16.size)).mono B7.size)).mono hb0.size)⟩
      · go_wp2_with (fail)
        go_ret
        exact ⟨rfl, hb0.trans ((B7.trans (C16.mono B7.size)).mono hb0.size)⟩
  · obtain ⟨hT, hK, hS⟩ := store5 hB9 (.int .i64 o.1.view) (.int .i64 o.1.normal) (.int .i64 o.1.commit) (.int .i64 o.1.active) (.slice A8 n8 c8)
    have C15 := hS _ _ (show w7.heap.size ≤ w12.heap.size from by omega) C14
    have hY15 := hY.keep (w' := (((((w14.setCell ⟨w12.heap.size, 0, none⟩ (.int .i64 o.1.view)).setCell ⟨w12.heap.size, 1, none⟩ (.int .i64 o.1.normal)).setCell ⟨w12.heap.size, 2, none⟩ (.int .i64 o.1.commit)).setCell ⟨w12.heap.size, 3, none⟩ (.int .i64 o.1.active)).setCell ⟨w12.heap.size, 4, none⟩ (.slice A8 n8 c8))) (S' := fun k => k ≠ w12.heap.size) (fun k hk _ => ⟨hK k hk, hk⟩)
    clear hK hS
    generalize (((((w14.setCell ⟨w12.heap.size, 0, none⟩ (.int .i64 o.1.view)).setCell ⟨w12.heap.size, 1, none⟩ (.int .i64 o.1.normal)).setCell ⟨w12.heap.size, 2, none⟩ (.int .i64 o.1.commit)).setCell ⟨w12.heap.size, 3, none⟩ (.int .i64 o.1.active)).setCell ⟨w12.heap.size, 4, none⟩ (.slice A8 n8 c8)) = w15 at hT C15 hY15 ⊢
    clear hb14 hl10 z0 z1 z2 z3 z4 zf hB9 hY
    obtain ⟨z0, z1, z2, z3, z4, zf⟩ := state_box hT
    obtain ⟨y0, y1, y2, y3, y4, yf⟩ := state_box ((C15.block w4.heap.size (by omega)).trans q5)
    go_wp2_with (fail)
    go_at_call 14
    refine (hg14 w15 C15 hY15).mono ?_
    rintro e w16 ⟨rfl, hb16⟩
    have C16 := C15.trans (hb16.mono C15.size)
    clear z0 z1 z2 z3 z4 zf y0 y1 y2 y3 y4 yf
    obtain ⟨y0, y1, y2, y3, y4, yf⟩ := state_box ((C16.block w4.heap.size (by omega)).trans q5)
    rcases hrt with hne | hrt
    · go_wp2_with (fail)
      go_ret
      exact ⟨rfl, hb0.trans ((B7.trans (C16.mono B7.size)).mono hb0.size)⟩
    · have hg22 := stateRight_any o.1 A5 n5 c5 w16 (hly.below C16)
      rw [hrt] at hg22
      by_cases hne : o.2 = 0
      · go_wp2_with (go_at_call 22; refine hg22.mono ?_; rintro e w17 ⟨rfl, hb17⟩)
        go_ret
        exact ⟨rfl, hb0.trans ((B7.trans ((C16.trans (hb17.mono C16.size)).mono B7.size)).mono hb0.size)⟩
      · go_wp2_with (fail)
        go_ret
        exact ⟨rfl, hb0.trans ((B7.trans (C16.mono B7.size)).mono hb0.size)⟩
end Go.Proofs.Ytlgdiloddphgnaa
