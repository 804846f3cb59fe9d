/- The value machine: what it computes, the model does. -/
import Derived.Test.YtlgdiloddphgnaaAM9
import Derived.LoopN
set_option linter.unusedSimpArgs false
set_option linter.unusedVariables false
namespace Go.Proofs.Ytlgdiloddphgnaa
open Go.RowKit
namespace AM
variable {P : Program} {call : Callee} {ops : Array Oper} {E : Env} {s : St} {w : World}

/-- A table of calls is true of the model. -/
def CallOK (P : Program) (call : Callee) : Prop := ∀ g args s x s', call g args s = some (x, s') →
  (∀ (args' : Array Value) (w : World), (callFunc g args').run P w = .ok (.enter g args') w) ∧
  ∀ (E : Env) (w : World) (us : Array Value), RelA E s w args us → Rel P E s w → Calls P g us w fun e w' => ∃ u E', e = .returned u ∧ RelV E' s' w' x u ∧ Le E s w E' s' w' ∧ Rel P E' s' w'

def isCallV : Op → Bool
  | .call c =>
    match c.callee with
    | .value _ => true
    | _ => false
  | _ => false

theorem list_vals {a : Fr} {us : Array Value} {d : List Deferred} (hA : RelA E s w a us) (xs : List Operand) : ∀ (j : Nat) (x : AV), (xs.map (ev a))[j]? = some x → ∃ v, (xs.map (Act.eval ⟨us, d⟩))[j]? = some v ∧ RelV E s w x v := by
  intro j x hj
  rw [List.getElem?_map] at hj
  cases hx : xs[j]? with
  | none => simp [hx] at hj
  | some o =>
    have e : ev a o = x := by simpa [hx] using hj
    subst e
    exact ⟨_, by rw [List.getElem?_map, hx]; rfl, relV_ev hA o⟩
theorem op_fine (hR : Rel P E s w) {a : Fr} {us : Array Value} {d : List Deferred} (hA : RelA E s w a us) {o : Oper} {x : AV} {s' : St} (hn : isCallV o.op = false) (h : aop P call o a s = some (x, s')) :
    Fine P E s w ((execOp (Act.eval ⟨us, d⟩) o).run P w) x s' := by
  obtain ⟨dst, op, type, pos, after, guard⟩ := o
  have mp : ∀ (m : Option AV), m.map (·, s) = some (x, s') → s' = s ∧ m = some x := by
    intro m hm
    cases m with
    | none => cases hm
    | some y =>
      simp at hm
      exact ⟨hm.2.symm, by rw [hm.1]⟩
  have rv := fun y => relV_ev (d := d) hA y
  cases op <;> simp only [aop, reduceCtorEq] at h <;> simp only [execOp]
  case move y =>
    cases h
    exact ⟨_, w, E, .inl rfl, rv y, Le.refl _ _ _, hR⟩
  case assign y =>
    cases h
    exact ⟨_, w, E, .inl rfl, rv y, Le.refl _ _ _, hR⟩
  case pick c y z =>
    split at h
    · rename_i b hb
      have hc := rv c
      rw [hb] at hc
      cases hcv : Act.eval ⟨us, d⟩ c <;> rw [hcv] at hc <;> cases hc
      cases h
      cases b
      · exact ⟨_, w, E, .inl rfl, rv z, Le.refl _ _ _, hR⟩
      · exact ⟨_, w, E, .inl rfl, rv y, Le.refl _ _ _, hR⟩
    · cases h
  case alloc t =>
    cases hz : zeroCells P t with
    | none => simp [hz] at h
    | some z =>
      simp [hz] at h
      obtain ⟨rfl, rfl⟩ := h
      obtain ⟨v, h1, h2, _⟩ := zero_run (E := E) (s := s) (w := w) hz
      obtain ⟨E', e1, e2, e3⟩ := box_rel (t := t) hR h2
      exact ⟨_, _, E', .inl (by simp [Instr.alloc, h1, newVar_run]), e1, e2, e3⟩
  case box t y =>
    cases hz : cellsOf (ev a y) with
    | none => simp [hz] at h
    | some z =>
      simp [hz] at h
      obtain ⟨rfl, rfl⟩ := h
      obtain ⟨E', e1, e2, e3⟩ := box_rel (t := t) hR (cells_rel hz (rv y))
      exact ⟨_, _, E', .inl (by simp [Instr.box, newVar_run]), e1, e2, e3⟩
  case build t parts =>
    obtain ⟨rfl, hb⟩ := mp _ h
    rw [map_parts]
    exact Fine.still hR (build_run hb (by simp) (parts_rel hA parts.toList) w)
  case buildSlice t len parts =>
    obtain ⟨rfl, hb⟩ := mp _ h
    rw [map_parts]
    exact Fine.some (buildSlice_run hR hb (by simp) (parts_rel hA parts.toList))
  case load t y =>
    obtain ⟨rfl, hb⟩ := mp _ h
    exact Fine.still hR (aload_run hR hb (rv y))
  case store t p y =>
    cases hs : astore P s t (ev a p) (ev a y) with
    | none => simp [hs] at h
    | some s1 =>
      simp [hs] at h
      obtain ⟨rfl, rfl⟩ := h
      obtain ⟨w', h1, h2, h3⟩ := astore_run hR hs (rv p) (rv y)
      exact ⟨undef, w', E, .inr ⟨by simp [h1], rfl⟩, .no, h2, h3⟩
  case nilCheck y =>
    have hy := rv y
    split at h
    · rename_i o off hb
      rw [hb] at hy
      cases hcv : Act.eval ⟨us, d⟩ y <;> rw [hcv] at hy <;> cases hy
      cases h
      exact ⟨_, w, E, .inl rfl, .ptr _ _ _ _ (by assumption), Le.refl _ _ _, hR⟩
    · rename_i xs hb
      rw [hb] at hy
      cases hcv : Act.eval ⟨us, d⟩ y <;> rw [hcv] at hy <;> cases hy
      cases h
      exact ⟨_, w, E, .inl rfl, .view _ _ _ _ (by assumption) (by assumption), Le.refl _ _ _, hR⟩
    · rename_i f first caps hb
      rw [hb] at hy
      cases hcv : Act.eval ⟨us, d⟩ y <;> rw [hcv] at hy <;> cases hy
      cases h
      exact ⟨_, w, E, .inl rfl, .fn _ _ _ _ _ (by assumption) (by assumption) (by assumption) (by assumption), Le.refl _ _ _, hR⟩
    · cases h
  case binOp op t y z t' =>
    obtain ⟨rfl, hb⟩ := mp _ h
    refine Fine.still hR (binOp_run y z (fun hn => ?_) hb (rv y) (rv z))
    unfold nilC at hn
    split at hn
    · rfl
    · cases hn
  case unOp op t y =>
    obtain ⟨rfl, hb⟩ := mp _ h
    obtain ⟨v, h1, h2⟩ := Option.bind_eq_some_iff.1 hb
    obtain ⟨u, h3, h4⟩ := Option.bind_eq_some_iff.1 h1
    rw [plain_rel h3 (rv y)]
    exact Fine.still hR ⟨v, pureOf_run h4 w, ofPlain_rel h2⟩
  case convert src dst' y =>
    have hy := rv y
    split at h
    · rename_i k n hb
      rw [hb] at hy
      cases hcv : Act.eval ⟨us, d⟩ y <;> rw [hcv] at hy <;> cases hy
      obtain ⟨rfl, hb⟩ := mp _ h
      obtain ⟨v, h1, h2⟩ := Option.bind_eq_some_iff.1 hb
      exact Fine.still hR ⟨v, pureOf_run h1 w, ofPlain_rel h2⟩
    · cases h
  case makeFunc fn first captured =>
    cases fn <;> simp only [aop, reduceCtorEq] at h
    rename_i f
    cases h
    refine ⟨_, w, E, .inl rfl, .fn f _ _ _ _ (by simp) (by simp) (fun j y hj => ?_) (fun j y hj => ?_), Le.refl _ _ _, hR⟩
    · obtain ⟨v, h1, h2⟩ := list_vals (d := d) hA first.toList j y hj
      have : (first.map (Act.eval ⟨us, d⟩)).getD j undef = v := by
        rw [List.getElem?_map] at h1
        have hlt : j < first.size := by
          rcases Nat.lt_or_ge j first.size with h | h
          · exact h
          · rw [List.getElem?_eq_none (by simpa using h)] at h1
            cases h1
        simp [hlt] at h1
        simp [Array.getD, hlt, h1]
      rw [this]
      exact h2
    · obtain ⟨v, h1, h2⟩ := list_vals (d := d) hA captured.toList j y hj
      have : (captured.map (Act.eval ⟨us, d⟩)).getD j undef = v := by
        rw [List.getElem?_map] at h1
        have hlt : j < captured.size := by
          rcases Nat.lt_or_ge j captured.size with h | h
          · exact h
          · rw [List.getElem?_eq_none (by simpa using h)] at h1
            cases h1
        simp [hlt] at h1
        simp [Array.getD, hlt, h1]
      rw [this]
      exact h2
  case slice t y lo hi mx =>
    obtain ⟨rfl, hb⟩ := mp _ h
    exact Fine.still hR (slice_run hb (rv y) (relO_ev hA lo) (relO_ev hA hi) (relO_ev hA mx))
  case fieldAddr t y f =>
    obtain ⟨rfl, hb⟩ := mp _ h
    exact Fine.still hR (fieldAddr_run hb (rv y))
  case field t y f =>
    have hy := rv y
    split at h
    · rename_i xs fd hb hf
      rw [hb] at hy
      cases hcv : Act.eval ⟨us, d⟩ y <;> rw [hcv] at hy <;> cases hy
      obtain ⟨rfl, hp⟩ := mp _ h
      rename_i vs ho hl hx
      obtain ⟨fs, hu, hfs⟩ := field_rel hf
      refine Fine.still hR ?_
      unfold partOf at hp
      split at hp
      · rename_i n ha hs
        split at hp
        · rename_i hle
          cases hp
          refine ⟨.agg (vs.extract fd.offset (fd.offset + n)), by simp [Instr.field, run_underlying hu, hfs, asAgg, part, isAgg_run ha, size_run hs], .agg _ _ (by simp; omega) (fun j z hj => ?_) (fun u hu => ?_)⟩
          · rw [List.getElem?_take] at hj
            split at hj
            · rename_i hlt
              rw [List.getElem?_drop] at hj
              have := hx _ z hj
              have hvl : fd.offset + j < vs.size := by omega
              rw [getD_lt hvl] at this
              have hlt2 : j < (vs.extract fd.offset (fd.offset + n)).size := by simp; omega
              rw [getD_lt hlt2]
              simpa using this
            · cases hj
          · obtain ⟨j, hj, rfl⟩ := Array.getElem_of_mem hu
            rw [Array.getElem_extract]
            exact ho _ (Array.getElem_mem _)
        · cases hp
      · rename_i ha
        have hx' := hx _ x hp
        have hvl : fd.offset < vs.size := by have := (List.getElem?_eq_some_iff.1 hp).1; omega
        rw [getD_lt hvl] at hx'
        refine ⟨_, ?_, hx'⟩
        simp [Instr.field, run_underlying hu, hfs, asAgg, part, isAgg_run ha, hvl]
      · cases hp
    · cases h
  case indexAddr t y i =>
    obtain ⟨rfl, hb⟩ := mp _ h
    exact Fine.still hR (indexAddr_run hb (rv y) (rv i))
  case index t y i =>
    have hy := rv y
    have hi := rv i
    split at h
    · rename_i b k n hb hc
      rw [hb] at hy
      rw [hc] at hi
      cases hcv : Act.eval ⟨us, d⟩ y <;> rw [hcv] at hy <;> cases hy
      cases hcv : Act.eval ⟨us, d⟩ i <;> rw [hcv] at hi <;> cases hi
      obtain ⟨rfl, hb⟩ := mp _ h
      obtain ⟨v, h1, h2⟩ := Option.bind_eq_some_iff.1 hb
      exact Fine.still hR ⟨v, pureOf_run h1 w, ofPlain_rel h2⟩
    · cases h
  case extract y i =>
    have hy := rv y
    split at h
    · rename_i vs hb
      rw [hb] at hy
      cases hcv : Act.eval ⟨us, d⟩ y <;> rw [hcv] at hy <;> cases hy
      rename_i ws hl hx
      obtain ⟨rfl, hp⟩ := mp _ h
      have hvl : i < ws.size := by have := (List.getElem?_eq_some_iff.1 hp).1; omega
      have hx' := hx _ x hp
      rw [getD_lt hvl] at hx'
      exact Fine.still hR ⟨_, by simp [Instr.extract, hvl], hx'⟩
    · cases h
  case call c =>
    unfold acallOp at h
    cases hc : c.callee with
    | value f =>
      simp only [isCallV, hc, Bool.true_eq_false] at hn
    | invoke r m =>
      rw [hc] at h
      cases h
    | builtin b =>
      rw [hc] at h
      cases b <;> simp only [reduceCtorEq] at h
      case append =>
        split at h
        · rename_i y z t t' h1 h2
          have e1 : c.args = #[y, z] := by apply Array.ext'; rw [h1]
          have e2 : c.argTypes = #[t, t'] := by apply Array.ext'; rw [h2]
          obtain ⟨q, w', E', r1, r2, r3, r4⟩ := append_run hR type h (rv y) (rv z)
          refine ⟨q, w', E', .inl ?_, r2, r3, r4⟩
          simp [resolve, hc, e1, e2, invoke, builtin, r1]
        · cases h
      case len =>
        split at h
        · rename_i y t h1 h2
          have e1 : c.args = #[y] := by apply Array.ext'; rw [h1]
          have e2 : c.argTypes = #[t] := by apply Array.ext'; rw [h2]
          obtain ⟨rfl, hb⟩ := mp _ h
          obtain ⟨u, r1, r2⟩ := len_run type hb (rv y)
          exact ⟨u, w, E, .inl (by simp [resolve, hc, e1, e2, invoke, builtin, r1]), r2, Le.refl _ _ _, hR⟩
        · cases h
      case max =>
        obtain ⟨rfl, hb⟩ := mp _ h
        obtain ⟨u, r1, r2⟩ := minmax_run (P := P) (ts := c.argTypes) (ty := type) (vs := c.args.toList.map (Act.eval ⟨us, d⟩)) hb (by simp) (list_vals hA c.args.toList)
        simp only [if_true] at r1
        have e1 : (c.args.toList.map (Act.eval ⟨us, d⟩)).toArray = c.args.map (Act.eval ⟨us, d⟩) := by apply Array.ext'; simp
        rw [e1] at r1
        exact ⟨u, w, E, .inl (by simp [resolve, hc, invoke, builtin, r1]), r2, Le.refl _ _ _, hR⟩
      case min =>
        obtain ⟨rfl, hb⟩ := mp _ h
        obtain ⟨u, r1, r2⟩ := minmax_run (P := P) (ts := c.argTypes) (ty := type) (vs := c.args.toList.map (Act.eval ⟨us, d⟩)) hb (by simp) (list_vals hA c.args.toList)
        simp only [Bool.false_eq_true, if_false] at r1
        have e1 : (c.args.toList.map (Act.eval ⟨us, d⟩)).toArray = c.args.map (Act.eval ⟨us, d⟩) := by apply Array.ext'; simp
        rw [e1] at r1
        exact ⟨u, w, E, .inl (by simp [resolve, hc, invoke, builtin, r1]), r2, Le.refl _ _ _, hR⟩
end AM
end Go.Proofs.Ytlgdiloddphgnaa
