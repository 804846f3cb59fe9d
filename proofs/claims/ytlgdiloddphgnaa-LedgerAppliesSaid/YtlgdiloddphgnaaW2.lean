import Derived.Test.YtlgdiloddphgnaaW1
namespace Go.Proofs.Ytlgdiloddphgnaa
open Go.RowKit

theorem Sl.int_at {S : Nat → Prop} {w : World} {A : Option Addr} {n cap : Nat} {xs : List Int} (h : Sl Kn.int S w A n cap xs) (i : Nat) (hi : i < n) :
    ∃ x b off, xs[i]? = some x ∧ A = some ⟨b, off, none⟩ ∧ S b ∧ b < w.heap.size ∧ w.cell? ⟨b, off + i, none⟩ = some (.int .i64 x) := by
  obtain ⟨b, off, hA, hS, hc⟩ := Sl.cell h i hi
  exact ⟨_, b, off, List.getElem?_eq_getElem _, hA, hS, World.block_lt_of_cell? w _ hc, hc⟩

/-- Nothing before k. -/
def NoneTill {α : Type} (p : α → Bool) (xs : List α) (k : Nat) : Prop := ∀ j x, j < k → xs[j]? = some x → p x = false
theorem NoneTill.zero {α : Type} (p : α → Bool) (xs : List α) : NoneTill p xs 0 := fun j _ h => absurd h (Nat.not_lt_zero j)
theorem NoneTill.succ {α : Type} {p : α → Bool} {xs : List α} {k : Nat} (h : NoneTill p xs k) {x : α} (hx : xs[k]? = some x) (hp : p x = false) : NoneTill p xs (k + 1) := fun j y hj hy => by
  rcases Nat.lt_succ_iff_lt_or_eq.1 hj with h1 | h1
  · exact h j y h1 hy
  · subst h1
    rw [hx] at hy
    injection hy with hy
    subst hy
    exact hp
theorem NoneTill.all {α : Type} {p : α → Bool} {xs : List α} (h : NoneTill p xs xs.length) : xs.any p = false := by
  rw [List.any_eq_false]
  intro x hx
  obtain ⟨j, hj, rfl⟩ := List.getElem_of_mem hx
  rw [h j _ hj (List.getElem?_eq_getElem hj)]
  decide
theorem any_at {α : Type} {p : α → Bool} {xs : List α} {k : Nat} {x : α} (hx : xs[k]? = some x) (hp : p x = true) : xs.any p = true :=
  List.any_eq_true.2 ⟨x, List.mem_of_getElem? hx, hp⟩

set_option maxHeartbeats 400000 in
/-- slices.IndexFunc over rules -/
theorem indexFunc_rule {S : Nat → Prop} {A : Option Addr} {n cap : Nat} {xs : List RuleD} (g : FuncId) (p : RuleD → Bool) (w : World)
    (hcall : ∀ (args : Array Value) (w : World), (callFunc g args).run Try.prog w = .ok (.enter g args) w)
    (hg : ∀ (x : RuleD) (w' : World), Calls Try.prog g #[.agg #[.int .i64 x.id, .int .i64 x.pri, .int .i64 x.act, .int .i64 x.sco, .string x.pat]] w' fun e w2 => e = .returned (.bool (p x)) ∧ Below w'.heap.size w' w2)
    (h : Sl RuleK S w A n cap xs) :
    Calls Try.prog 115 #[.slice A n cap, .func (.func g) #[] #[]] w fun e w' =>
      ∃ r : Int, e = .returned (.int .i64 r) ∧ decide (0 ≤ r) = xs.any p ∧ Below w.heap.size w w' := by
  have hn := h.le
  have hl := Lib.hid h.hl
  go_enter Try.func115, Try.ntmps115
  go_wp2
  go_loopw [8] (fun i wr => ∃ k : Nat, k ≤ n ∧ i = .int .i64 k ∧ Below w.heap.size w wr ∧ NoneTill p xs k) (fun i _ => n - (intOf i).toNat)
  case atStart => exact ⟨0, Nat.zero_le _, rfl, Below.refl _ _, NoneTill.zero _ _⟩
  case round =>
    obtain ⟨k, hk, rfl, hb, hnone⟩ := hrel
    by_cases hlt : k < n
    · obtain ⟨x, b, off, hx, rfl, hS, hlb, f0, f1, f2, f3, f4⟩ := RuleK.at_ (h.below hb) k hlt
      have HX := Lib.hid hx
      clear hx
      have HN := Lib.hid hnone
      clear hnone
      cases hp : p x
      · have HP := Lib.hid hp
        have hg' := hg x
        rw [hp] at hg'
        clear hp hg
        go_wp2_with ((refine (hg' _).mono ?_); rintro e w1 ⟨rfl, hb1⟩)
        go_roundw
        case rel => exact ⟨k + 1, by omega, by go_num, hb.trans (hb1.mono hb.size), HN.out.succ HX.out HP.out⟩
        case measure => simp [intOf]; omega
      · have HP := Lib.hid hp
        have hg' := hg x
        rw [hp] at hg'
        clear hp hg
        go_wp2_with ((refine (hg' _).mono ?_); rintro e w1 ⟨rfl, hb1⟩)
        go_ret
        exact ⟨k, rfl, by rw [any_at HX.out HP.out]; simp, hb.trans (hb1.mono hb.size)⟩
    · go_wp2
      go_ret
      refine ⟨-1, rfl, ?_, hb⟩
      have e : k = xs.length := by have := hl.out; omega
      rw [e] at hnone
      rw [hnone.all]
      decide

/-- slices.ContainsFunc over rules -/
theorem containsFunc_rule {S : Nat → Prop} {A : Option Addr} {n cap : Nat} {xs : List RuleD} (g : FuncId) (p : RuleD → Bool) (w : World)
    (hcall : ∀ (args : Array Value) (w : World), (callFunc g args).run Try.prog w = .ok (.enter g args) w)
    (hg : ∀ (x : RuleD) (w' : World), Calls Try.prog g #[.agg #[.int .i64 x.id, .int .i64 x.pri, .int .i64 x.act, .int .i64 x.sco, .string x.pat]] w' fun e w2 => e = .returned (.bool (p x)) ∧ Below w'.heap.size w' w2)
    (h : Sl RuleK S w A n cap xs) :
    Calls Try.prog 84 #[.slice A n cap, .func (.func g) #[] #[]] w fun e w' => e = .returned (.bool (xs.any p)) ∧ Below w.heap.size w w' := by
  have H := indexFunc_rule g p w hcall hg h
  clear hcall hg
  go_enter Try.func84, Try.ntmps84
  go_wp2_with ((refine H.mono ?_); rintro e w1 ⟨r, rfl, hr, hb⟩; have HR := Lib.hid hr; clear hr)
  go_ret
  exact ⟨ret_bool HR.out, hb⟩

set_option maxHeartbeats 400000 in
/-- slices.IndexFunc over whole numbers -/
theorem indexFunc_int {S : Nat → Prop} {A : Option Addr} {n cap : Nat} {xs : List Int} (g : FuncId) (p : Int → Bool) (w : World)
    (hcall : ∀ (args : Array Value) (w : World), (callFunc g args).run Try.prog w = .ok (.enter g args) w)
    (hg : ∀ (x : Int) (w' : World), Calls Try.prog g #[.int .i64 x] w' fun e w2 => e = .returned (.bool (p x)) ∧ Below w'.heap.size w' w2)
    (h : Sl Kn.int S w A n cap xs) :
    Calls Try.prog 116 #[.slice A n cap, .func (.func g) #[] #[]] w fun e w' =>
      ∃ r : Int, e = .returned (.int .i64 r) ∧ decide (0 ≤ r) = xs.any p ∧ Below w.heap.size w w' := by
  have hn := h.le
  have hl := Lib.hid h.hl
  go_enter Try.func116, Try.ntmps116
  go_wp2
  go_loopw [8] (fun i wr => ∃ k : Nat, k ≤ n ∧ i = .int .i64 k ∧ Below w.heap.size w wr ∧ NoneTill p xs k) (fun i _ => n - (intOf i).toNat)
  case atStart => exact ⟨0, Nat.zero_le _, rfl, Below.refl _ _, NoneTill.zero _ _⟩
  case round =>
    obtain ⟨k, hk, rfl, hb, hnone⟩ := hrel
    by_cases hlt : k < n
    · obtain ⟨x, b, off, hx, rfl, hS, hlb, f0⟩ := (h.below hb).int_at k hlt
      have HX := Lib.hid hx
      clear hx
      have HN := Lib.hid hnone
      clear hnone
      cases hp : p x
      · have HP := Lib.hid hp
        have hg' := hg x
        rw [hp] at hg'
        clear hp hg
        go_wp2_with ((refine (hg' _).mono ?_); rintro e w1 ⟨rfl, hb1⟩)
        go_roundw
        case rel => exact ⟨k + 1, by omega, by go_num, hb.trans (hb1.mono hb.size), HN.out.succ HX.out HP.out⟩
        case measure => simp [intOf]; omega
      · have HP := Lib.hid hp
        have hg' := hg x
        rw [hp] at hg'
        clear hp hg
        go_wp2_with ((refine (hg' _).mono ?_); rintro e w1 ⟨rfl, hb1⟩)
        go_ret
        exact ⟨k, rfl, by rw [any_at HX.out HP.out]; simp, hb.trans (hb1.mono hb.size)⟩
    · go_wp2
      go_ret
      refine ⟨-1, rfl, ?_, hb⟩
      have e : k = xs.length := by have := hl.out; omega
      rw [e] at hnone
      rw [hnone.all]
      decide

/-- slices.ContainsFunc over whole numbers -/
theorem containsFunc_int {S : Nat → Prop} {A : Option Addr} {n cap : Nat} {xs : List Int} (g : FuncId) (p : Int → Bool) (w : World)
    (hcall : ∀ (args : Array Value) (w : World), (callFunc g args).run Try.prog w = .ok (.enter g args) w)
    (hg : ∀ (x : Int) (w' : World), Calls Try.prog g #[.int .i64 x] w' fun e w2 => e = .returned (.bool (p x)) ∧ Below w'.heap.size w' w2)
    (h : Sl Kn.int S w A n cap xs) :
    Calls Try.prog 87 #[.slice A n cap, .func (.func g) #[] #[]] w fun e w' => e = .returned (.bool (xs.any p)) ∧ Below w.heap.size w w' := by
  have H := indexFunc_int g p w hcall hg h
  clear hcall hg
  go_enter Try.func87, Try.ntmps87
  go_wp2_with ((refine H.mono ?_); rintro e w1 ⟨r, rfl, hr, hb⟩; have HR := Lib.hid hr; clear hr)
  go_ret
  exact ⟨ret_bool HR.out, hb⟩

set_option maxHeartbeats 400000 in
/-- slices.IndexFunc over entries -/
theorem indexFunc_entry {S : Nat → Prop} {A : Option Addr} {n cap : Nat} {xs : List EntryD} (g : FuncId) (p : EntryD → Bool) (w : World)
    (hcall : ∀ (args : Array Value) (w : World), (callFunc g args).run Try.prog w = .ok (.enter g args) w)
    (hg : ∀ (x : EntryD) (A7 : Option Addr) (n7 c7 : Nat) (A8 : Option Addr) (n8 c8 : Nat) (w' : World), Sl RuleK S w' A7 n7 c7 x.delta.put → Sl Kn.int S w' A8 n8 c8 x.delta.drop → Calls Try.prog g #[.agg #[.int .i64 x.view, .int .i64 x.client, .int .i64 x.request, .int .i64 x.delta.dflt, .int .i64 x.delta.closed, .int .i64 x.delta.fuel, .int .i64 x.delta.stack, .slice A7 n7 c7, .slice A8 n8 c8]] w' fun e w2 => e = .returned (.bool (p x)) ∧ Below w'.heap.size w' w2)
    (h : Sl EntryK S w A n cap xs) :
    Calls Try.prog 83 #[.slice A n cap, .func (.func g) #[] #[]] w fun e w' =>
      ∃ r : Int, e = .returned (.int .i64 r) ∧ decide (0 ≤ r) = xs.any p ∧ Below w.heap.size w w' := by
  have hn := h.le
  have hl := Lib.hid h.hl
  go_enter Try.func83, Try.ntmps83
  go_wp2
  go_loopw [8] (fun i wr => ∃ k : Nat, k ≤ n ∧ i = .int .i64 k ∧ Below w.heap.size w wr ∧ NoneTill p xs k) (fun i _ => n - (intOf i).toNat)
  case atStart => exact ⟨0, Nat.zero_le _, rfl, Below.refl _ _, NoneTill.zero _ _⟩
  case round =>
    obtain ⟨k, hk, rfl, hb, hnone⟩ := hrel
    by_cases hlt : k < n
    · obtain ⟨x, b, off, A7, n7, c7, A8, n8, c8, hx, rfl, hS, hlb, f0, f1, f2, f3, f4, f5, f6, f7, f8, hs7, hs8⟩ := EntryK.at_ (h.below hb) k hlt
      have HX := Lib.hid hx
      clear hx
      have HN := Lib.hid hnone
      clear hnone
      cases hp : p x
      · have HP := Lib.hid hp
        have hg' := hg x A7 n7 c7 A8 n8 c8
        rw [hp] at hg'
        clear hp hg
        go_wp2_with ((refine (hg' _ hs7 hs8).mono ?_); rintro e w1 ⟨rfl, hb1⟩)
        go_roundw
        case rel => exact ⟨k + 1, by omega, by go_num, hb.trans (hb1.mono hb.size), HN.out.succ HX.out HP.out⟩
        case measure => simp [intOf]; omega
      · have HP := Lib.hid hp
        have hg' := hg x A7 n7 c7 A8 n8 c8
        rw [hp] at hg'
        clear hp hg
        go_wp2_with ((refine (hg' _ hs7 hs8).mono ?_); rintro e w1 ⟨rfl, hb1⟩)
        go_ret
        exact ⟨k, rfl, by rw [any_at HX.out HP.out]; simp, hb.trans (hb1.mono hb.size)⟩
    · go_wp2
      go_ret
      refine ⟨-1, rfl, ?_, hb⟩
      have e : k = xs.length := by have := hl.out; omega
      rw [e] at hnone
      rw [hnone.all]
      decide

/-- slices.ContainsFunc over entries -/
theorem containsFunc_entry {S : Nat → Prop} {A : Option Addr} {n cap : Nat} {xs : List EntryD} (g : FuncId) (p : EntryD → Bool) (w : World)
    (hcall : ∀ (args : Array Value) (w : World), (callFunc g args).run Try.prog w = .ok (.enter g args) w)
    (hg : ∀ (x : EntryD) (A7 : Option Addr) (n7 c7 : Nat) (A8 : Option Addr) (n8 c8 : Nat) (w' : World), Sl RuleK S w' A7 n7 c7 x.delta.put → Sl Kn.int S w' A8 n8 c8 x.delta.drop → Calls Try.prog g #[.agg #[.int .i64 x.view, .int .i64 x.client, .int .i64 x.request, .int .i64 x.delta.dflt, .int .i64 x.delta.closed, .int .i64 x.delta.fuel, .int .i64 x.delta.stack, .slice A7 n7 c7, .slice A8 n8 c8]] w' fun e w2 => e = .returned (.bool (p x)) ∧ Below w'.heap.size w' w2)
    (h : Sl EntryK S w A n cap xs) :
    Calls Try.prog 49 #[.slice A n cap, .func (.func g) #[] #[]] w fun e w' => e = .returned (.bool (xs.any p)) ∧ Below w.heap.size w w' := by
  have H := indexFunc_entry g p w hcall hg h
  clear hcall hg
  go_enter Try.func49, Try.ntmps49
  go_wp2_with ((refine H.mono ?_); rintro e w1 ⟨r, rfl, hr, hb⟩; have HR := Lib.hid hr; clear hr)
  go_ret
  exact ⟨ret_bool HR.out, hb⟩

end Go.Proofs.Ytlgdiloddphgnaa
