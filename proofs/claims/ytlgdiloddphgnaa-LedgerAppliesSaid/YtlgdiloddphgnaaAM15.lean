/- This program's data as the value machine has it, and as the walks' lists. -/
import Derived.Test.YtlgdiloddphgnaaAM14
import Derived.Test.YtlgdiloddphgnaaData
import Derived.Test.YtlgdiloddphgnaaRows
set_option linter.unusedSimpArgs false
set_option linter.unusedVariables false
namespace Go.Proofs.Ytlgdiloddphgnaa
open Go.RowKit
namespace AM
set_option maxRecDepth 100000

def encInt (n : Int) : List AV := [.int .i64 n]
def encRule (r : RuleD) : List AV := [.int .i64 r.id, .int .i64 r.pri, .int .i64 r.act, .int .i64 r.sco, .str r.pat]
def encDelta (d : DeltaD) : List AV := [.int .i64 d.dflt, .int .i64 d.closed, .int .i64 d.fuel, .int .i64 d.stack, .lst false d.put.length (d.put.flatMap encRule), .lst false d.drop.length (d.drop.flatMap encInt)]
def encEntry (e : EntryD) : List AV := [.int .i64 e.view, .int .i64 e.client, .int .i64 e.request] ++ encDelta e.delta
def encLog (l : List EntryD) : AV := .lst false l.length (l.flatMap encEntry)
def encState (s : StateD) : List AV := [.int .i64 s.view, .int .i64 s.normal, .int .i64 s.commit, .int .i64 s.active, encLog s.log]
def encRecord (r : RecordD) : List AV := [.int .i64 r.kind, .int .i64 r.a, .int .i64 r.b, encLog r.log]

/-! ### Shapes -/
theorem shape_list {α : Type} {enc : α → List AV} {Q : List AV → Prop} (h : ∀ x, Q x → ∃ a, x = enc a) : ∀ l : List (List AV), (∀ x ∈ l, Q x) → ∃ ys : List α, ys.length = l.length ∧ l.flatten = ys.flatMap enc
  | [], _ => ⟨[], rfl, rfl⟩
  | x :: l, hl => by
    obtain ⟨a, rfl⟩ := h x (hl x (by simp))
    obtain ⟨ys, h1, h2⟩ := shape_list h l (fun y hy => hl y (by simp [hy]))
    exact ⟨a :: ys, by simp [h1], by simp [h2]⟩
theorem shape_int {n : Nat} {xs : List AV} (h : Shape Try.prog (n + 1) 3 xs) : ∃ v, xs = encInt v := by
  obtain ⟨v, rfl, _⟩ := shape_intT Try.underlying3 h
  exact ⟨v, rfl⟩
theorem shape_str {n : Nat} {xs : List AV} (h : Shape Try.prog (n + 1) 9 xs) : ∃ s : ByteArray, xs = [.str s] := by
  obtain ⟨v, rfl, _⟩ := shape_strT Try.underlying9 h
  exact ⟨v, rfl⟩
theorem shape_rule {n : Nat} {xs : List AV} (h : Shape Try.prog (n + 2) 46 xs) : ∃ r, xs = encRule r := by
  obtain ⟨parts, rfl, hl, hp⟩ := shape_structT Try.underlying46 h
  match parts, hl with
  | [p0, p1, p2, p3, p4], _ =>
    obtain ⟨a, rfl⟩ := shape_int (hp 0 _ _ rfl rfl)
    obtain ⟨b, rfl⟩ := shape_int (hp 1 _ _ rfl rfl)
    obtain ⟨c, rfl⟩ := shape_int (hp 2 _ _ rfl rfl)
    obtain ⟨d, rfl⟩ := shape_int (hp 3 _ _ rfl rfl)
    obtain ⟨e, rfl⟩ := shape_str (hp 4 _ _ rfl rfl)
    exact ⟨⟨a, b, c, d, e⟩, rfl⟩
theorem shape_rules {n : Nat} {xs : List AV} (h : Shape Try.prog (n + 3) 39 xs) : ∃ l : List RuleD, xs = [.lst false l.length (l.flatMap encRule)] := by
  obtain ⟨l, rfl, hl⟩ := shape_sliceT Try.underlying39 h
  obtain ⟨ys, h1, h2⟩ := shape_list (fun x hx => shape_rule hx) l (fun x hx => (hl x hx).2)
  exact ⟨ys, by rw [h1, h2]⟩
theorem shape_ints {n : Nat} {xs : List AV} (h : Shape Try.prog (n + 2) 40 xs) : ∃ l : List Int, xs = [.lst false l.length (l.flatMap encInt)] := by
  obtain ⟨l, rfl, hl⟩ := shape_sliceT Try.underlying40 h
  obtain ⟨ys, h1, h2⟩ := shape_list (fun x hx => shape_int hx) l (fun x hx => (hl x hx).2)
  exact ⟨ys, by rw [h1, h2]⟩
theorem shape_delta {n : Nat} {xs : List AV} (h : Shape Try.prog (n + 4) 42 xs) : ∃ d, xs = encDelta d := by
  obtain ⟨parts, rfl, hl, hp⟩ := shape_structT Try.underlying42 h
  match parts, hl with
  | [p0, p1, p2, p3, p4, p5], _ =>
    obtain ⟨a, rfl⟩ := shape_int (hp 0 _ _ rfl rfl)
    obtain ⟨b, rfl⟩ := shape_int (hp 1 _ _ rfl rfl)
    obtain ⟨c, rfl⟩ := shape_int (hp 2 _ _ rfl rfl)
    obtain ⟨d, rfl⟩ := shape_int (hp 3 _ _ rfl rfl)
    obtain ⟨e, rfl⟩ := shape_rules (hp 4 _ _ rfl rfl)
    obtain ⟨f, rfl⟩ := shape_ints (hp 5 _ _ rfl rfl)
    exact ⟨⟨a, b, c, d, e, f⟩, rfl⟩
theorem shape_entry {n : Nat} {xs : List AV} (h : Shape Try.prog (n + 5) 44 xs) : ∃ e, xs = encEntry e := by
  obtain ⟨parts, rfl, hl, hp⟩ := shape_structT Try.underlying44 h
  match parts, hl with
  | [p0, p1, p2, p3], _ =>
    obtain ⟨a, rfl⟩ := shape_int (hp 0 _ _ rfl rfl)
    obtain ⟨b, rfl⟩ := shape_int (hp 1 _ _ rfl rfl)
    obtain ⟨c, rfl⟩ := shape_int (hp 2 _ _ rfl rfl)
    obtain ⟨d, rfl⟩ := shape_delta (hp 3 _ _ rfl rfl)
    exact ⟨⟨a, b, c, d⟩, rfl⟩
theorem shape_log {n : Nat} {xs : List AV} (h : Shape Try.prog (n + 6) 22 xs) : ∃ l, xs = [encLog l] := by
  obtain ⟨l, rfl, hl⟩ := shape_sliceT Try.underlying22 h
  obtain ⟨ys, h1, h2⟩ := shape_list (fun x hx => shape_entry hx) l (fun x hx => (hl x hx).2)
  exact ⟨ys, by rw [encLog, h1, h2]⟩
theorem shape_state {n : Nat} {xs : List AV} (h : Shape Try.prog (n + 7) 24 xs) : ∃ s, xs = encState s := by
  obtain ⟨parts, rfl, hl, hp⟩ := shape_structT Try.underlying24 h
  match parts, hl with
  | [p0, p1, p2, p3, p4], _ =>
    obtain ⟨a, rfl⟩ := shape_int (hp 0 _ _ rfl rfl)
    obtain ⟨b, rfl⟩ := shape_int (hp 1 _ _ rfl rfl)
    obtain ⟨c, rfl⟩ := shape_int (hp 2 _ _ rfl rfl)
    obtain ⟨d, rfl⟩ := shape_int (hp 3 _ _ rfl rfl)
    obtain ⟨e, rfl⟩ := shape_log (hp 4 _ _ rfl rfl)
    exact ⟨⟨a, b, c, d, e⟩, rfl⟩
theorem shape_record {n : Nat} {xs : List AV} (h : Shape Try.prog (n + 7) 57 xs) : ∃ s, xs = encRecord s := by
  obtain ⟨parts, rfl, hl, hp⟩ := shape_structT Try.underlying57 h
  match parts, hl with
  | [p0, p1, p2, p3], _ =>
    obtain ⟨a, rfl⟩ := shape_int (hp 0 _ _ rfl rfl)
    obtain ⟨b, rfl⟩ := shape_int (hp 1 _ _ rfl rfl)
    obtain ⟨c, rfl⟩ := shape_int (hp 2 _ _ rfl rfl)
    obtain ⟨e, rfl⟩ := shape_log (hp 3 _ _ rfl rfl)
    exact ⟨⟨a, b, c, e⟩, rfl⟩

/-! ### The walks' lists -/
section
variable {E : Env} {s : St} {w : World}
theorem flatMap_at {α : Type} {enc : α → List AV} {z : Nat} (hz : ∀ x, (enc x).length = z) : ∀ (l : List α) (i : Nat) (x : α), l[i]? = some x → ∀ (j : Nat) (y : AV), (enc x)[j]? = some y → (l.flatMap enc)[i * z + j]? = some y
  | [], i, x, h, _, _, _ => by simp at h
  | a :: l, i, x, h, j, y, hj => by
    cases i with
    | zero =>
      simp only [List.getElem?_cons_zero, Option.some.injEq] at h
      subst h
      rw [List.flatMap_cons, Nat.zero_mul, Nat.zero_add, List.getElem?_append_left (List.getElem?_eq_some_iff.1 hj).1]
      exact hj
    | succ i =>
      have := flatMap_at hz l i x (by simpa using h) j y hj
      rw [List.flatMap_cons, List.getElem?_append_right (by rw [hz, Nat.add_mul]; omega), hz]
      rwa [show (i + 1) * z + j - z = i * z + j by rw [Nat.add_mul]; omega]
theorem sl_of_rel {α : Type} {d : Kn α} {enc : α → List AV} (hz : ∀ x, (enc x).length = d.sz) (hfit : ∀ (b off : Nat) (x : α), Range E s w b off (enc x) → ∃ c, d.R (fun _ => True) w c x ∧ ∀ (j : Nat) (u : Value), c[j]? = some u → w.cell? ⟨b, off + j, none⟩ = some u) {full : Bool} {l : List α} {v : Value}
    (h : RelV E s w (.lst full l.length (l.flatMap enc)) v) : ∃ A cap, v = .slice A l.length cap ∧ Sl d (fun _ => True) w A l.length cap l := by
  cases h with
  | lst _ _ cap _ A us hl hx hc hm hf =>
    refine ⟨A, cap, rfl, rfl, hc, by simpa [maxLen] using hm, fun i x hi => ?_⟩
    have hpos : 0 < (l.flatMap enc).length := by
      have h0 := flatMap_at hz l i x hi 0 _ (List.getElem?_eq_getElem (by rw [hz]; exact d.pos))
      have := (List.getElem?_eq_some_iff.1 h0).1
      omega
    obtain ⟨b, off, rfl, hlim, hr⟩ := lies_range hl hx hpos
    have hr' : Range E s w b (off + i * d.sz) (enc x) := fun j y hj => by
      rw [Nat.add_assoc]
      exact hr _ y (flatMap_at hz l i x hi j y hj)
    obtain ⟨c, c1, c2⟩ := hfit b _ x hr'
    exact ⟨b, off, c, rfl, trivial, c1, c2⟩
theorem at_int {b off : Nat} {xs : List AV} (h : Range E s w b off xs) (j : Nat) (n : Int) (hj : xs[j]? = some (.int .i64 n)) : w.cell? ⟨b, off + j, none⟩ = some (.int .i64 n) := by
  obtain ⟨u, h1, _, h2⟩ := h j _ hj
  cases h2
  exact h1
theorem at_str {b off : Nat} {xs : List AV} (h : Range E s w b off xs) (j : Nat) (n : ByteArray) (hj : xs[j]? = some (.str n)) : w.cell? ⟨b, off + j, none⟩ = some (.string n) := by
  obtain ⟨u, h1, _, h2⟩ := h j _ hj
  cases h2
  exact h1
theorem cells_of {b off : Nat} {c : List Value} (h : ∀ j : Nat, (hj : j < c.length) → w.cell? ⟨b, off + j, none⟩ = some c[j]) : ∀ (j : Nat) (u : Value), c[j]? = some u → w.cell? ⟨b, off + j, none⟩ = some u := fun j u hj => by
  obtain ⟨hl, rfl⟩ := List.getElem?_eq_some_iff.1 hj
  exact h j hl
theorem fit_int : ∀ (b off : Nat) (x : Int), Range E s w b off (encInt x) → ∃ c, Kn.int.R (fun _ => True) w c x ∧ ∀ (j : Nat) (u : Value), c[j]? = some u → w.cell? ⟨b, off + j, none⟩ = some u := fun b off x h =>
  ⟨[.int .i64 x], rfl, fun j u hj => by
    match j, hj with
    | 0, hj =>
      have : Value.int .i64 x = u := by simpa using hj
      subst this
      exact at_int h 0 x rfl⟩
theorem fit_rule : ∀ (b off : Nat) (x : RuleD), Range E s w b off (encRule x) → ∃ c, RuleK.R (fun _ => True) w c x ∧ ∀ (j : Nat) (u : Value), c[j]? = some u → w.cell? ⟨b, off + j, none⟩ = some u := fun b off x h =>
  ⟨_, rfl, fun j u hj => by
    match j, hj with
    | 0, hj => cases hj; exact at_int h 0 _ rfl
    | 1, hj => cases hj; exact at_int h 1 _ rfl
    | 2, hj => cases hj; exact at_int h 2 _ rfl
    | 3, hj => cases hj; exact at_int h 3 _ rfl
    | 4, hj => cases hj; exact at_str h 4 _ rfl⟩
theorem fit_entry : ∀ (b off : Nat) (x : EntryD), Range E s w b off (encEntry x) → ∃ c, EntryK.R (fun _ => True) w c x ∧ ∀ (j : Nat) (u : Value), c[j]? = some u → w.cell? ⟨b, off + j, none⟩ = some u := fun b off x h => by
  obtain ⟨u7, c7, _, r7⟩ := h 7 _ rfl
  obtain ⟨u8, c8, _, r8⟩ := h 8 _ rfl
  obtain ⟨A7, k7, rfl, s7⟩ := sl_of_rel (d := RuleK) (fun _ => rfl) fit_rule r7
  obtain ⟨A8, k8, rfl, s8⟩ := sl_of_rel (d := Kn.int) (fun _ => rfl) fit_int r8
  refine ⟨_, ⟨A7, _, k7, A8, _, k8, rfl, s7, s8⟩, fun j u hj => ?_⟩
  match j, hj with
  | 0, hj => cases hj; exact at_int h 0 _ rfl
  | 1, hj => cases hj; exact at_int h 1 _ rfl
  | 2, hj => cases hj; exact at_int h 2 _ rfl
  | 3, hj => cases hj; exact at_int h 3 _ rfl
  | 4, hj => cases hj; exact at_int h 4 _ rfl
  | 5, hj => cases hj; exact at_int h 5 _ rfl
  | 6, hj => cases hj; exact at_int h 6 _ rfl
  | 7, hj => cases hj; exact c7
  | 8, hj => cases hj; exact c8
theorem sl_log {l : List EntryD} {v : Value} (h : RelV E s w (encLog l) v) : ∃ A cap, v = .slice A l.length cap ∧ Sl EntryK (fun _ => True) w A l.length cap l := sl_of_rel (d := EntryK) (fun _ => rfl) fit_entry h
theorem cells_state {st : StateD} {us : List Value} (h : Cells E s w (encState st) us) : ∃ A cap, us = [.int .i64 st.view, .int .i64 st.normal, .int .i64 st.commit, .int .i64 st.active, .slice A st.log.length cap] ∧ Sl EntryK (fun _ => True) w A st.log.length cap st.log := by
  cases h with | cons h0 _ h => cases h with | cons h1 _ h => cases h with | cons h2 _ h => cases h with | cons h3 _ h => cases h with | cons h4 _ h => cases h with | nil =>
  obtain ⟨A, cap, rfl, hs⟩ := sl_log h4
  cases h0; cases h1; cases h2; cases h3
  exact ⟨A, cap, rfl, hs⟩
theorem cells_record {st : RecordD} {us : List Value} (h : Cells E s w (encRecord st) us) : ∃ A cap, us = [.int .i64 st.kind, .int .i64 st.a, .int .i64 st.b, .slice A st.log.length cap] ∧ Sl EntryK (fun _ => True) w A st.log.length cap st.log := by
  cases h with | cons h0 _ h => cases h with | cons h1 _ h => cases h with | cons h2 _ h => cases h with | cons h4 _ h => cases h with | nil =>
  obtain ⟨A, cap, rfl, hs⟩ := sl_log h4
  cases h0; cases h1; cases h2
  exact ⟨A, cap, rfl, hs⟩
end
end AM
end Go.Proofs.Ytlgdiloddphgnaa
