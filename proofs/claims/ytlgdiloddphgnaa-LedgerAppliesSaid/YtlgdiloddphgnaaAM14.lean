/- The value machine: arguments that are read as data, as values. -/
import Derived.Test.YtlgdiloddphgnaaAM12
import Derived.ProofKit
import Derived.OpenShut
import Derived.Deep.Slices
import Derived.ChangeArms
set_option linter.unusedSimpArgs false
set_option linter.unusedVariables false
namespace Go.Proofs.Ytlgdiloddphgnaa
open Go.RowKit
namespace AM
variable {P : Program}

/-- Nothing of the state, and whatever memory there is stays as it is. -/
def Env.all (w : World) : Env := ⟨fun _ => 0, fun _ => 0, fun b => match w.heap[b]? with | some (.cells c _ _) => c.size | _ => 0⟩
theorem Rel.all (P : Program) (w : World) : Rel P (Env.all w) St.nil w :=
  ⟨fun k t cs h => by simp [St.get, St.nil] at h, fun k t n h => by simp [St.get, St.nil] at h, fun k k' h => by simp [St.next, St.nil] at h, fun b hb => by simp [Env.all, Array.getElem?_eq_none hb]⟩
theorem all_lim {w : World} {b i : Nat} {v : Value} (h : w.cell? ⟨b, i, none⟩ = some v) : i < (Env.all w).lim b := by
  simp only [World.cell?] at h
  simp only [Env.all]
  cases hb : w.heap[b]? with
  | none => simp [hb] at h
  | some o =>
    cases o <;> simp [hb] at h
    rename_i c e fr
    obtain ⟨hl, _⟩ := Array.getElem?_eq_some_iff.1 h
    exact hl

/-- Cells one by one. -/
inductive Cells (E : Env) (s : St) (w : World) : List AV → List Value → Prop
  | nil : Cells E s w [] []
  | cons {x : AV} {u : Value} {xs : List AV} {us : List Value} (hx : RelV E s w x u) (ho : u.oneCell' = true) (h : Cells E s w xs us) : Cells E s w (x :: xs) (u :: us)
theorem Cells.length {E : Env} {s : St} {w : World} {xs : List AV} {us : List Value} (h : Cells E s w xs us) : us.length = xs.length := by
  induction h with
  | nil => rfl
  | cons _ _ _ ih => simp [ih]
theorem Cells.append {E : Env} {s : St} {w : World} {xs ys : List AV} {us vs : List Value} (h : Cells E s w xs us) (k : Cells E s w ys vs) : Cells E s w (xs ++ ys) (us ++ vs) := by
  induction h with
  | nil => exact k
  | cons hx ho _ ih => exact .cons hx ho ih
theorem Cells.get {E : Env} {s : St} {w : World} {xs : List AV} {us : List Value} (h : Cells E s w xs us) : ∀ (j : Nat) (x : AV), xs[j]? = some x → ∃ u, us[j]? = some u ∧ u.oneCell' = true ∧ RelV E s w x u := by
  induction h with
  | nil => intro j x hj; simp at hj
  | cons hx ho _ ih =>
    intro j x hj
    cases j with
    | zero =>
      simp only [List.getElem?_cons_zero, Option.some.injEq] at hj
      subst hj
      exact ⟨_, rfl, ho, hx⟩
    | succ j => exact ih j x (by simpa using hj)

/-- The cells of a value of a type, as it came in. -/
def Shape (P : Program) : Nat → TypeId → List AV → Prop
  | 0, _, _ => False
  | n + 1, t, xs =>
    match P.underlying t with
    | some .bool => ∃ b, xs = [.bool b]
    | some (.int k) => ∃ v, xs = [.int k v] ∧ (Lit.int k v).wf = true
    | some .string => ∃ s : ByteArray, xs = [.str s] ∧ s.size ≤ maxLen
    | some (.slice e) => ∃ l : List (List AV), xs = [.lst false l.length l.flatten] ∧ ∀ x ∈ l, x.length = P.cellsOf e ∧ Shape P n e x
    | some (.struct fs) => ∃ parts : List (List AV), xs = parts.flatten ∧ parts.length = fs.size ∧ ∀ (i : Nat) (f : Field) (p : List AV), fs[i]? = some f → parts[i]? = some p → Shape P n f.type p
    | _ => False
def tiles (P : Program) : Nat → List Field → Option Nat
  | off, [] => some off
  | off, f :: fs => if f.offset = off then tiles P (off + P.cellsOf f.type) fs else none
/-- Plain data: numbers, Bools, strings, slices and structs of them. -/
def plainT (P : Program) : Nat → TypeId → Bool
  | 0, _ => false
  | n + 1, t =>
    match P.underlying t with
    | some .bool | some (.int _) | some .string => true
    | some (.slice e) => plainT P n e
    | some (.struct fs) => decide (tiles P 0 fs.toList = some (P.cellsOf t)) && fs.all fun f => plainT P n f.type
    | _ => false

section
variable {H : Type} {enc : TypeId × Value → H} {w : World} {spare : Nat → Bool} {held : Bool}
theorem parts_cells {E : Env} {s : St} {cs : List Value} {Q : Field → List AV → Prop} : ∀ (fs : List Field) (off tot : Nat), tiles P off fs = some tot → cs.length = tot →
    (∀ (i : Nat) (f : Field), fs[i]? = some f → ∃ xs, Cells E s w xs ((cs.drop f.offset).take (P.cellsOf f.type)) ∧ Q f xs) → ∃ parts : List (List AV), parts.length = fs.length ∧ Cells E s w parts.flatten (cs.drop off) ∧ ∀ (i : Nat) (f : Field) (p : List AV), fs[i]? = some f → parts[i]? = some p → Q f p
  | [], off, tot, h, hl, _ => by
    simp only [tiles, Option.some.injEq] at h
    refine ⟨[], rfl, ?_, by simp⟩
    rw [List.drop_of_length_le (by omega)]
    exact .nil
  | f :: fs, off, tot, h, hl, hc => by
    simp only [tiles] at h
    split at h
    · rename_i e
      obtain ⟨xs, h1, h2⟩ := hc 0 f rfl
      obtain ⟨parts, p1, p2, p3⟩ := parts_cells fs (off + P.cellsOf f.type) tot h hl (fun i f' hi => hc (i + 1) f' hi)
      refine ⟨xs :: parts, by simp [p1], ?_, fun i f' p hi hp => ?_⟩
      · rw [List.flatten_cons]
        rw [e] at h1
        have := h1.append p2
        rw [← List.drop_drop] at this
        rwa [List.take_append_drop] at this
      · cases i with
        | zero =>
          simp only [List.getElem?_cons_zero, Option.some.injEq] at hi hp
          subst hi hp
          exact h2
        | succ i => exact p3 i f' p (by simpa using hi) (by simpa using hp)
    · cases h
theorem open_shape : ∀ (n : Nat) (t : TypeId) (fuel : Nat) (cs : List Value) (x : DataW H × List MemPlace), plainT P n t = true → DataW.trod enc P w 0 spare held fuel t cs = some x → ∃ xs, Shape P n t xs ∧ Cells (Env.all w) St.nil w xs cs
  | 0, t, fuel, cs, x, h, _ => by cases h
  | n + 1, t, fuel, cs, x, h, ht => by
    simp only [plainT] at h
    split at h
    · rename_i hu
      obtain ⟨b, rfl, _⟩ := DataW.trod_bool hu ht
      exact ⟨[.bool b], by simp [Shape, hu], .cons (.bool b) rfl .nil⟩
    · rename_i k hu
      obtain ⟨v, rfl, _, hw⟩ := DataW.trod_int hu ht
      exact ⟨[.int k v], by simp [Shape, hu, hw], .cons (.int k v) rfl .nil⟩
    · rename_i hu
      obtain ⟨s, rfl, _, hs⟩ := DataW.trod_string hu ht
      exact ⟨[.str s], by simp only [Shape, hu]; exact ⟨s, rfl, hs⟩, .cons (.str s) rfl .nil⟩
    · rename_i e hu
      rcases Deep.open_slice hu ht with ⟨rfl, _⟩ | ⟨a, len, cap, m, k, D, Pl, rfl, hb, hl, hm, hmm, hx, hi⟩
      · exact ⟨[.lst false 0 []], by simp only [Shape, hu]; exact ⟨[], rfl, by simp⟩, .cons (.lst false 0 0 [] none (fun _ => undef) (.inl rfl) (by simp) (Nat.le_refl _) (Nat.zero_le _) (by simp)) rfl .nil⟩
      · have hlm : len ≤ m := by
          rw [hmm]
          split <;> omega
        -- the elements one by one
        have key : ∀ j, j ≤ len → ∃ l : List (List AV), l.length = j ∧ (∀ x ∈ l, x.length = P.cellsOf e ∧ Shape P n e x) ∧ ∀ (i : Nat) (y : AV), l.flatten[i]? = some y → ∃ u, w.cell? (a.add i) = some u ∧ u.oneCell' = true ∧ RelV (Env.all w) St.nil w y u := by
          intro j
          induction j with
          | zero => exact fun _ => ⟨[], rfl, by simp, by simp⟩
          | succ j ih =>
            intro hj
            obtain ⟨l, l1, l2, l3⟩ := ih (by omega)
            obtain ⟨cs', c1, c2⟩ := hi j (by omega)
            obtain ⟨xs, x1, x2⟩ := open_shape n e k cs' _ h c2
            obtain ⟨_, c3, c4⟩ := World.cells?_some c1
            have hxl : xs.length = P.cellsOf e := by rw [← x2.length, c3]
            have hfl : l.flatten.length = j * P.cellsOf e := by
              rw [List.length_flatten, ← l1]
              have : l.map List.length = List.replicate l.length (P.cellsOf e) := by
                rw [List.eq_replicate_iff]
                refine ⟨by simp, fun b hb => ?_⟩
                obtain ⟨x, hx, rfl⟩ := List.mem_map.1 hb
                exact (l2 x hx).1
              rw [this]
              simp
            refine ⟨l ++ [xs], by simp [l1], fun x hx => ?_, fun i y hy => ?_⟩
            · rcases List.mem_append.1 hx with hx | hx
              · exact l2 x hx
              · rw [List.mem_singleton.1 hx]
                exact ⟨hxl, x1⟩
            · rw [List.flatten_append, List.getElem?_append] at hy
              split at hy
              · exact l3 i y hy
              · rename_i hge
                simp only [List.flatten_cons, List.flatten_nil, List.append_nil] at hy
                obtain ⟨u, h1, h2, h3⟩ := x2.get _ y hy
                have hlt := (List.getElem?_eq_some_iff.1 hy).1
                have := c4 (i - l.flatten.length) (by omega)
                rw [h1, hfl, Deep.add_add] at this
                refine ⟨u, ?_, h2, h3⟩
                rwa [show j * P.cellsOf e + (i - j * P.cellsOf e) = i by omega] at this
        obtain ⟨l, l1, l2, l3⟩ := key len (Nat.le_refl _)
        refine ⟨[.lst false l.length l.flatten], by simp only [Shape, hu]; exact ⟨l, rfl, l2⟩, .cons ?_ rfl .nil⟩
        rw [l1]
        rcases Nat.eq_zero_or_pos l.flatten.length with h0 | h0
        · have e0 : l.flatten = [] := List.eq_nil_of_length_eq_zero h0
          rw [e0]
          exact .lst false len cap [] (some a) (fun _ => undef) (.inl rfl) (by simp) hl hm (by simp)
        · obtain ⟨u0, h1, _, _⟩ := l3 0 _ (List.getElem?_eq_getElem h0)
          have hspot : a.spot = none := by
            have : a.add 0 = a := by simp [Addr.add]
            rw [this] at h1
            simp only [World.cell?] at h1
            split at h1
            · split at h1
              · cases h1
              · rename_i hs
                simpa using hs
            · cases h1
          obtain ⟨b, off, sp⟩ := a
          simp only at hspot
          subst hspot
          have hr : Range (Env.all w) St.nil w b off l.flatten := fun i y hy => by
            obtain ⟨u, q1, q2, q3⟩ := l3 i y hy
            rw [Addr.add_plain] at q1
            exact ⟨u, q1, q2, q3⟩
          have hlim : off + l.flatten.length ≤ (Env.all w).lim b := by
            obtain ⟨u, q1, _, _⟩ := hr (l.flatten.length - 1) _ (List.getElem?_eq_getElem (by omega))
            have := all_lim q1
            omega
          obtain ⟨us, u1, u2⟩ := range_lies hr hlim
          exact .lst false len cap _ _ us u1 u2 hl hm (by simp)
    · rename_i fs hu
      simp only [Bool.and_eq_true, decide_eq_true_eq] at h
      obtain ⟨xs, n', rfl, _, hlen, hxl, hf⟩ := DataW.trod_struct hu ht
      obtain ⟨parts, p1, p2, p3⟩ := parts_cells (P := P) (w := w) (E := Env.all w) (s := St.nil) (cs := cs) (Q := fun f xs => Shape P n f.type xs) fs.toList 0 _ h.1 hlen (fun i f hi => by
        have hfi : fs[i]? = some f := by simpa using hi
        have hil := (Array.getElem?_eq_some_iff.1 hfi).1
        have h1 := hf i f hfi
        have hfp := Array.all_eq_true_iff_forall_mem.1 h.2 f (Array.mem_of_getElem? hfi)
        cases hy : xs[i]? with
        | none =>
          have := List.getElem?_eq_none_iff.1 hy
          omega
        | some y =>
          rw [hy] at h1
          obtain ⟨ys, y1, y2⟩ := open_shape n f.type n' _ _ hfp h1
          exact ⟨ys, y2, y1⟩)
      refine ⟨parts.flatten, ?_, by simpa using p2⟩
      simp only [Shape, hu]
      exact ⟨parts, rfl, by simpa using p1, fun i f p hi hp => p3 i f p (by simpa using hi) hp⟩
    · cases h
end
theorem shape_structT {n : Nat} {t : TypeId} {fs : Array Field} {xs : List AV} (hu : P.underlying t = some (.struct fs)) (h : Shape P (n + 1) t xs) : ∃ parts : List (List AV), xs = parts.flatten ∧ parts.length = fs.size ∧ ∀ (i : Nat) (f : Field) (p : List AV), fs[i]? = some f → parts[i]? = some p → Shape P n f.type p := by
  simp only [Shape, hu] at h
  exact h
theorem shape_sliceT {n : Nat} {t e : TypeId} {xs : List AV} (hu : P.underlying t = some (.slice e)) (h : Shape P (n + 1) t xs) : ∃ l : List (List AV), xs = [.lst false l.length l.flatten] ∧ ∀ x ∈ l, x.length = P.cellsOf e ∧ Shape P n e x := by
  simp only [Shape, hu] at h
  exact h
theorem shape_intT {n : Nat} {t : TypeId} {k : IntKind} {xs : List AV} (hu : P.underlying t = some (.int k)) (h : Shape P (n + 1) t xs) : ∃ v, xs = [.int k v] ∧ (Lit.int k v).wf = true := by
  simp only [Shape, hu] at h
  exact h
theorem shape_strT {n : Nat} {t : TypeId} {xs : List AV} (hu : P.underlying t = some .string) (h : Shape P (n + 1) t xs) : ∃ s : ByteArray, xs = [.str s] ∧ s.size ≤ maxLen := by
  simp only [Shape, hu] at h
  exact h
theorem shape_boolT {n : Nat} {t : TypeId} {xs : List AV} (hu : P.underlying t = some .bool) (h : Shape P (n + 1) t xs) : ∃ b, xs = [.bool b] := by
  simp only [Shape, hu] at h
  exact h
end AM
end Go.Proofs.Ytlgdiloddphgnaa
