/- What the functions compute, as plain Lean. -/
import Derived.Test.YtlgdiloddphgnaaData
namespace Go.Proofs.Ytlgdiloddphgnaa

def withinB (n l h : Int) : Bool := decide (l ≤ n) && decide (n ≤ h)
def num (n least : Int) : Bool := decide (least ≤ n) && decide (n ≤ 1099511627776)
def ruleRight (r : RuleD) : Bool :=
  decide (1 ≤ r.id ∧ r.id ≤ 1099511627776 ∧ 0 ≤ r.pri ∧ r.pri ≤ 1000 ∧ 0 ≤ r.act ∧ r.act ≤ 255 ∧ 1 ≤ r.sco ∧ r.sco ≤ 65535 ∧ r.pat.size ≤ 256)
def entryNums (e : EntryD) : Bool :=
  num e.view 0 && num e.client 1 && num e.request 1 && num e.delta.dflt (-1) && num e.delta.closed (-1) && num e.delta.fuel (-1) && num e.delta.stack (-1)
def entryRight (e : EntryD) : Bool :=
  entryNums e && decide (e.delta.put.length ≤ 16) && decide (e.delta.drop.length ≤ 16) && e.delta.put.all ruleRight && e.delta.drop.all (num · 1)
def stateNums (s : StateD) : Bool :=
  decide (0 ≤ s.view ∧ s.view ≤ 1099511627776 ∧ 0 ≤ s.normal ∧ s.normal ≤ s.view ∧ (s.log.length : Int) ≤ 64 ∧ 0 ≤ s.commit ∧ s.commit ≤ (s.log.length : Int) ∧ 0 ≤ s.active ∧ s.active ≤ 64)
def stateRight (s : StateD) : Bool := stateNums s && s.log.all entryRight
/-- Has a list from so many to so many right entries? -/
def logged (l : List EntryD) (least most : Int) : Bool := decide (least ≤ (l.length : Int)) && decide ((l.length : Int) ≤ most) && l.all entryRight
def recordNums (r : RecordD) : Bool := decide (1 ≤ r.kind) && decide (r.kind ≤ 5) && num r.a 0 && num r.b 0
def recordRight (r : RecordD) : Bool := recordNums r && (if r.kind = 2 then logged r.log 1 1 else decide ((r.log.length : Int) = 0))

def smallE (x : EntryD) : Bool := decide ((x.delta.put.length : Int) ≤ 20) && decide ((x.delta.drop.length : Int) ≤ 20) && x.delta.put.all (fun r => decide ((r.pat.size : Int) ≤ 300))
def smallLog (l : List EntryD) : Bool := l.all smallE && decide ((l.length : Int) ≤ 70)
/-- Are two the same? -/
noncomputable def eqB {α : Type} (a b : α) : Bool := @decide (a = b) (Classical.propDecidable _)
theorem eqB_iff {α : Type} {a b : α} : eqB a b = true ↔ a = b := by unfold eqB; exact @decide_eq_true_iff _ (Classical.propDecidable _)
theorem eqB_false {α : Type} {a b : α} : eqB a b = false ↔ a ≠ b := by rw [← Bool.not_eq_true, eqB_iff]
theorem eqB_refl {α : Type} (a : α) : eqB a a = true := eqB_iff.2 rfl
/-- Two lists are alike up to a place. -/
def LikeTill {α : Type} (xs ys : List α) (k : Nat) : Prop := ∀ j, j < k → xs[j]? = ys[j]?
theorem LikeTill.zero {α : Type} (xs ys : List α) : LikeTill xs ys 0 := fun j h => absurd h (Nat.not_lt_zero j)
theorem LikeTill.succ {α : Type} {xs ys : List α} {k : Nat} (h : LikeTill xs ys k) {x y : α} (hx : xs[k]? = some x) (hy : ys[k]? = some y) (e : x = y) : LikeTill xs ys (k + 1) := fun j hj => by
  rcases Nat.lt_succ_iff_lt_or_eq.1 hj with h1 | h1
  · exact h j h1
  · subst h1
    rw [hx, hy, e]
theorem LikeTill.all {α : Type} {xs ys : List α} (h : LikeTill xs ys xs.length) (hl : xs.length = ys.length) : eqB xs ys = true := by
  rw [eqB_iff]
  refine List.ext_getElem? fun j => ?_
  rcases Nat.lt_or_ge j xs.length with h1 | h1
  · exact h j h1
  · rw [List.getElem?_eq_none h1, List.getElem?_eq_none (by omega)]
theorem unlike_at {α : Type} {xs ys : List α} {k : Nat} {x y : α} (hx : xs[k]? = some x) (hy : ys[k]? = some y) (e : x ≠ y) : eqB xs ys = false := by
  rw [eqB_false]
  rintro rfl
  rw [hx] at hy
  injection hy with hy
  exact e hy
theorem unlike_len {α : Type} {xs ys : List α} (h : xs.length ≠ ys.length) : eqB xs ys = false := by
  rw [eqB_false]
  rintro rfl
  exact h rfl
theorem within_num (n l : Int) : withinB n l 1099511627776 = num n l := rfl
theorem ret_iff {a b : Bool} (h : a = true ↔ b = true) : Ending.returned (.bool a) = .returned (.bool b) := by rw [Bool.eq_iff_iff.2 h]
theorem ret_bool {a b : Bool} (h : a = b) : Ending.returned (.bool a) = .returned (.bool b) := by rw [h]
theorem ret_int {k : IntKind} {a b : Int} (h : a = b) : Ending.returned (.int k a) = .returned (.int k b) := by rw [h]

end Go.Proofs.Ytlgdiloddphgnaa
