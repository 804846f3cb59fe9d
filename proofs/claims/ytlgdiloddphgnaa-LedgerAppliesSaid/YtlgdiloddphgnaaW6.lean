import Derived.Test.YtlgdiloddphgnaaW5
namespace Go.Proofs.Ytlgdiloddphgnaa
open Go.RowKit

theorem RuleD.ext' {x y : RuleD} (h0 : x.id = y.id) (h1 : x.pri = y.pri) (h2 : x.act = y.act) (h3 : x.sco = y.sco) (h4 : x.pat = y.pat) : x = y := by
  cases x
  cases y
  simp_all
theorem pat_eq (a b : ByteArray) (h : (a.toList == b.toList) = true) : a = b := by
  have h1 : a.toList = b.toList := by simpa using h
  rw [ByteArray.toList_eq, ByteArray.toList_eq] at h1
  obtain ⟨⟨x⟩⟩ := a
  obtain ⟨⟨y⟩⟩ := b
  have h2 : x = y := h1
  rw [h2]
/-- Where two rules part, in the walk's own words. -/
theorem rule_cases (x y : RuleD) : x = y ∨ (x ≠ y ∧ (x.id == y.id) = false) ∨ (x ≠ y ∧ (x.id == y.id) = true ∧ (x.pri == y.pri) = false) ∨ (x ≠ y ∧ (x.id == y.id) = true ∧ (x.pri == y.pri) = true ∧ (x.act == y.act) = false) ∨
    (x ≠ y ∧ (x.id == y.id) = true ∧ (x.pri == y.pri) = true ∧ (x.act == y.act) = true ∧ (x.sco == y.sco) = false) ∨ (x ≠ y ∧ (x.id == y.id) = true ∧ (x.pri == y.pri) = true ∧ (x.act == y.act) = true ∧ (x.sco == y.sco) = true ∧ (x.pat.toList == y.pat.toList) = false) := by
  by_cases h : x = y
  · exact .inl h
  · refine .inr ?_
    cases h0 : (x.id == y.id)
    · simp [h]
    cases h1 : (x.pri == y.pri)
    · simp [h]
    cases h2 : (x.act == y.act)
    · simp [h]
    cases h3 : (x.sco == y.sco)
    · simp [h]
    cases h4 : (x.pat.toList == y.pat.toList)
    · simp [h]
    · exact absurd (RuleD.ext' (by simpa using h0) (by simpa using h1) (by simpa using h2) (by simpa using h3) (pat_eq _ _ h4)) h

set_option maxHeartbeats 1000000 in
/-- slices.Equal over rules -/
theorem equal_rule {S S2 : Nat → Prop} {A B : Option Addr} {n cap m cap2 : Nat} {xs ys : List RuleD} (w : World) (h : Sl RuleK S w A n cap xs) (h2 : Sl RuleK S2 w B m cap2 ys) :
    Calls Try.prog 106 #[.slice A n cap, .slice B m cap2] w fun e w' => e = .returned (.bool (eqB xs ys)) ∧ Below w.heap.size w w' := by
  have hn := h.le
  have hm := h2.le
  have hl := Lib.hid h.hl
  have hl2 := Lib.hid h2.hl
  obtain ⟨R, HR⟩ := veil (eqB xs ys)
  rw [← HR.out]
  by_cases hnm : n = m
  rotate_left 1
  · have h1 : ((n : Int) == (m : Int)) = false := by simp; omega
    have h3 : ((n : Int) != (m : Int)) = true := by simp; omega
    have HNM := Lib.hid hnm
    clear hnm
    go_enter Try.func106, Try.ntmps106
    go_wp2
    go_ret
    exact ⟨ret_bool (by rw [HR.out, unlike_len (by rw [hl.out, hl2.out]; exact HNM.out)]), Below.refl _ _⟩
  · subst hnm
    go_enter Try.func106, Try.ntmps106
    go_wp2
    go_loopw [13] (fun i wr => ∃ k : Nat, k ≤ n ∧ i = .int .i64 k ∧ Below w.heap.size w wr ∧ LikeTill xs ys k) (fun i _ => n - (intOf i).toNat)
    case atStart => exact ⟨0, Nat.zero_le _, rfl, Below.refl _ _, LikeTill.zero _ _⟩
    case round =>
      obtain ⟨k, hk, rfl, hb, hlike⟩ := hrel
      have HL := Lib.hid hlike
      clear hlike
      by_cases hlt : k < n
      · obtain ⟨x, b, off, hx, rfl, hS, hlb, f0, f1, f2, f3, f4⟩ := RuleK.at_ (h.below hb) k hlt
        obtain ⟨y, b2, off2, hy, rfl, hS2, hlb2, g0, g1, g2, g3, g4⟩ := RuleK.at_ (h2.below hb) k hlt
        have HX := Lib.hid hx
        have HY := Lib.hid hy
        clear hx hy
        go_wp2
        rcases rule_cases x y with rfl | ⟨hne, e0⟩ | ⟨hne, e0, e1⟩ | ⟨hne, e0, e1, e2⟩ | ⟨hne, e0, e1, e2, e3⟩ | ⟨hne, e0, e1, e2, e3, e4⟩
        · go_quiet (fail)
          go_wp2
          go_roundw
          case rel => exact ⟨k + 1, by omega, by go_num, below_drewN hb _, HL.out.succ HX.out HY.out rfl⟩
          case measure => simp [intOf]; omega
        all_goals
          have HNE := Lib.hid hne
          clear hne
          go_quiet (fail)
          go_wp2
          go_ret
          exact ⟨ret_bool (by rw [HR.out, unlike_at HX.out HY.out HNE.out]), below_drewN hb _⟩
      · go_wp2
        go_ret
        have e : k = xs.length := by have := hl.out; omega
        subst e
        exact ⟨ret_bool (by rw [HR.out, HL.out.all (by rw [hl.out, hl2.out])]), hb⟩
theorem int_cases (x y : Int) : x = y ∨ (x ≠ y ∧ (x != y) = true) := by
  by_cases h : x = y
  · exact .inl h
  · exact .inr ⟨h, by simpa using h⟩

set_option maxHeartbeats 1000000 in
/-- slices.Equal over whole numbers -/
theorem equal_int {S S2 : Nat → Prop} {A B : Option Addr} {n cap m cap2 : Nat} {xs ys : List Int} (w : World) (h : Sl Kn.int S w A n cap xs) (h2 : Sl Kn.int S2 w B m cap2 ys) :
    Calls Try.prog 107 #[.slice A n cap, .slice B m cap2] w fun e w' => e = .returned (.bool (eqB xs ys)) ∧ Below w.heap.size w w' := by
  have hn := h.le
  have hm := h2.le
  have hl := Lib.hid h.hl
  have hl2 := Lib.hid h2.hl
  obtain ⟨R, HR⟩ := veil (eqB xs ys)
  rw [← HR.out]
  by_cases hnm : n = m
  rotate_left 1
  · have h1 : ((n : Int) == (m : Int)) = false := by simp; omega
    have h3 : ((n : Int) != (m : Int)) = true := by simp; omega
    have HNM := Lib.hid hnm
    clear hnm
    go_enter Try.func107, Try.ntmps107
    go_wp2
    go_ret
    exact ⟨ret_bool (by rw [HR.out, unlike_len (by rw [hl.out, hl2.out]; exact HNM.out)]), Below.refl _ _⟩
  · subst hnm
    go_enter Try.func107, Try.ntmps107
    go_wp2
    go_loopw [13] (fun i wr => ∃ k : Nat, k ≤ n ∧ i = .int .i64 k ∧ Below w.heap.size w wr ∧ LikeTill xs ys k) (fun i _ => n - (intOf i).toNat)
    case atStart => exact ⟨0, Nat.zero_le _, rfl, Below.refl _ _, LikeTill.zero _ _⟩
    case round =>
      obtain ⟨k, hk, rfl, hb, hlike⟩ := hrel
      have HL := Lib.hid hlike
      clear hlike
      by_cases hlt : k < n
      · obtain ⟨x, b, off, hx, rfl, hS, hlb, f0⟩ := (h.below hb).int_at k hlt
        obtain ⟨y, b2, off2, hy, rfl, hS2, hlb2, g0⟩ := (h2.below hb).int_at k hlt
        have HX := Lib.hid hx
        have HY := Lib.hid hy
        clear hx hy
        go_wp2
        rcases int_cases x y with rfl | ⟨hne, e0⟩
        · go_quiet (fail)
          go_wp2
          go_roundw
          case rel => exact ⟨k + 1, by omega, by go_num, below_drewN hb _, HL.out.succ HX.out HY.out rfl⟩
          case measure => simp [intOf]; omega
        all_goals
          have HNE := Lib.hid hne
          clear hne
          go_quiet (fail)
          go_wp2
          go_ret
          exact ⟨ret_bool (by rw [HR.out, unlike_at HX.out HY.out HNE.out]), below_drewN hb _⟩
      · go_wp2
        go_ret
        have e : k = xs.length := by have := hl.out; omega
        subst e
        exact ⟨ret_bool (by rw [HR.out, HL.out.all (by rw [hl.out, hl2.out])]), hb⟩
end Go.Proofs.Ytlgdiloddphgnaa
