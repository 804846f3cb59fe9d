/- The value machine: all operations but calls of functions. -/
import Derived.Test.YtlgdiloddphgnaaAM6
import Derived.WalkSpells
import Derived.WalkLawsBesides
import Derived.Laws.Cover3
set_option linter.unusedSimpArgs false
set_option linter.unusedVariables false
namespace Go.Proofs.Ytlgdiloddphgnaa
open Go.RowKit
namespace AM
variable {P : Program} {E : Env} {s : St} {w w' : World}

theorem ofPlain_rel {v : Value} {x : AV} (h : ofPlain v = some x) : RelV E s w x v := by
  cases v <;> simp only [ofPlain, Option.some.injEq, reduceCtorEq] at h <;> subst h <;> constructor
theorem plain_rel {x : AV} {v u : Value} (h : plain x = some v) (hx : RelV E s w x u) : u = v := by
  cases hx <;> simp only [plain, Option.some.injEq, reduceCtorEq] at h <;> exact h
theorem guard_run (op : BinOp) (t : TypeId) (x y : Operand) (a b : Value) (h : ∀ cs, a ≠ .agg cs) (h' : a ≠ .nilIface) : (eqGuard op t x y a b).run P w = .ok () w := by
  unfold eqGuard
  cases op <;> first | rfl | skip
  all_goals
    cases a <;> first | rfl | exact absurd rfl h' | exact absurd rfl (h _)
theorem binOp_run {op : BinOp} {t : TypeId} {x y r : AV} {u v : Value} {nilY : Bool} (ox oy : Operand) (hn : nilY = true → v = .slice none 0 0) (h : abinOp P op t nilY x y = some r) (hx : RelV E s w x u) (hy : RelV E s w y v) :
    ∃ q, (do eqGuard op t ox oy u v; binOp op t u v : Sem Value).run P w = .ok q w ∧ RelV E s w r q := by
  have step : ∀ q, (∀ cs, u ≠ .agg cs) → u ≠ .nilIface → (binOp op t u v).run P w = .ok q w → (do eqGuard op t ox oy u v; binOp op t u v : Sem Value).run P w = .ok q w := by
    intro q h1 h2 h3
    simp [guard_run op t ox oy u v h1 h2, h3]
  have ptrs : ∀ (a : Option Addr) (b : Option Addr) (c : Bool), u = .pointer a → v = .pointer b → (a = none ∨ b = none) → isPtrT P t = true → c = (a.isNone && b.isNone) → ∀ r', (op = .eql ∧ r' = .bool c ∨ op = .neq ∧ r' = .bool !c) → (binOp op t u v).run P w = .ok r' w := by
    rintro a b c rfl rfl hab hp rfl r' hr
    obtain ⟨e, he⟩ := isPtr_run hp
    have heq : (Op.equal t (.pointer a) (.pointer b)).run P w = .ok (a.isNone && b.isNone) w := by
      have hd : ∀ d : Nat, (Op.equalIn (d + 1) t (.pointer a) (.pointer b)).run P w = .ok (a.isNone && b.isNone) w := fun d => by
        cases a <;> cases b <;> first | (simp [Op.equalIn, run_underlying he]; done) | (rcases hab with h | h <;> cases h)
      exact hd 9999
    rcases hr with ⟨rfl, rfl⟩ | ⟨rfl, rfl⟩ <;> simp [binOp, heq]
  have slices : ∀ (A : Option Addr) (n c m : Nat) (us : Nat → Value), u = .slice A n c → Lies E w A (m + 1) us → (if nilY && (elemOf P t).isSome then (match op with | .eql => some (.bool false) | .neq => some (.bool true) | _ => none) else none) = some r → ∃ q, (do eqGuard op t ox oy u v; binOp op t u v : Sem Value).run P w = .ok q w ∧ RelV E s w r q := by
    rintro A n c m us rfl hl hh
    split at hh
    · rename_i hc
      simp only [Bool.and_eq_true] at hc
      have hv := hn hc.1
      subst hv
      obtain ⟨e, he⟩ := Option.isSome_iff_exists.1 hc.2
      have hA : A.isNone = false := by
        rcases hl with h0 | ⟨b, off, rfl, _⟩
        · omega
        · rfl
      have heq := run_equal_slice_nil w t e A n c (elem_run he)
      rw [hA] at heq
      split at hh
      · cases hh
        exact ⟨_, step _ (by simp) (by simp) (by simp [binOp, heq]), .bool _⟩
      · cases hh
        exact ⟨_, step _ (by simp) (by simp) (by simp [binOp, heq]), .bool _⟩
      · cases hh
    · cases hh
  unfold abinOp at h
  split at h
  · cases hx with
    | lst _ _ cap _ A us hl hxs hc hm hf => exact slices A _ cap _ us rfl hl h
  · cases hx with
    | own _ _ cap _ A us hl hxs hc hm t2 m2 hk hn2 hv => exact slices A _ cap _ us rfl hl h
  · cases hx; cases hy
    obtain ⟨q, h1, h2⟩ := Option.bind_eq_some_iff.1 h
    exact ⟨q, step q (by simp) (by simp) (pureOf_run h1 w), ofPlain_rel h2⟩
  · cases hx; cases hy
    obtain ⟨q, h1, h2⟩ := Option.bind_eq_some_iff.1 h
    exact ⟨q, step q (by simp) (by simp) (pureOf_run h1 w), ofPlain_rel h2⟩
  · rename_i a b
    cases hx; cases hy
    split at h
    · rename_i hu
      cases h
      refine ⟨_, step _ (by simp) (by simp) ?_, .bool _⟩
      simp [binOp, run_equal_bool w t a b hu]
    · rename_i hu
      cases h
      refine ⟨_, step _ (by simp) (by simp) ?_, .bool _⟩
      simp [binOp, run_equal_bool w t a b hu]
      cases a <;> cases b <;> rfl
    · cases h
  all_goals try
    cases hx; cases hy
    split at h
    all_goals try
      split at h
      · rename_i hp
        cases h
        first
        | exact ⟨_, step _ (by simp) (by simp) (ptrs _ _ _ rfl rfl (by simp) hp rfl _ (.inl ⟨rfl, rfl⟩)), by simpa using .bool _⟩
        | exact ⟨_, step _ (by simp) (by simp) (ptrs _ _ _ rfl rfl (by simp) hp rfl _ (.inr ⟨rfl, rfl⟩)), by simpa using .bool _⟩
      · cases h
    all_goals try cases h
  all_goals try cases h

/-- What an operation leaves. -/
def Fine (P : Program) (E : Env) (s : St) (w : World) (r : Result Next) (x : AV) (s' : St) : Prop :=
  ∃ q w' E', (r = .ok (.value q) w' ∨ r = .ok .skip w' ∧ q = undef) ∧ RelV E' s' w' x q ∧ Le E s w E' s' w' ∧ Rel P E' s' w'
theorem Fine.still (hR : Rel P E s w) {m : Sem Value} {x : AV} (h : ∃ u, m.run P w = .ok u w ∧ RelV E s w x u) : Fine P E s w ((do pure (.value (← m)) : Sem Next).run P w) x s := by
  obtain ⟨u, h1, h2⟩ := h
  exact ⟨u, w, E, .inl (by simp [h1]), h2, Le.refl _ _ _, hR⟩
theorem Fine.some {m : Sem Value} {x : AV} {s' : St} (h : ∃ q w' E', m.run P w = .ok q w' ∧ RelV E' s' w' x q ∧ Le E s w E' s' w' ∧ Rel P E' s' w') : Fine P E s w ((do pure (.value (← m)) : Sem Next).run P w) x s' := by
  obtain ⟨q, w', E', h1, h2, h3, h4⟩ := h
  exact ⟨q, w', E', .inl (by simp [h1]), h2, h3, h4⟩
theorem map_parts (us : Array Value) (d : List Deferred) (parts : Array (Nat × Operand)) : (parts.map fun (i, x) => (i, Act.eval ⟨us, d⟩ x)) = (parts.toList.map fun p => (p.1, Act.eval ⟨us, d⟩ p.2)).toArray := by
  apply Array.ext'
  simp
theorem relO_ev {a : Fr} {us : Array Value} {d : List Deferred} (hA : RelA E s w a us) (x : Option Operand) : RelO E s w (x.map (ev a)) (x.map (Act.eval ⟨us, d⟩)) := by
  cases x with
  | none => trivial
  | some x => exact relV_ev hA x
theorem len_run {t : TypeId} {x r : AV} {v : Value} (ty : TypeId) (h : alen P t x = some r) (hx : RelV E s w x v) : ∃ u, (Builtin.len_ #[t] ty #[v]).run P w = .ok u w ∧ RelV E s w r u := by
  unfold alen at h
  split at h
  · cases hx
    split at h
    · rename_i hs
      cases h
      exact ⟨_, by simp [Builtin.len_, run_underlying (isStr_run hs), goInt], .int _ _⟩
    · cases h
  · split at h
    · rename_i he
      obtain ⟨e, he⟩ := Option.isSome_iff_exists.1 he
      cases h
      cases hx
      exact ⟨_, by simp [Builtin.len_, run_underlying (elem_run he), goInt], .int _ _⟩
    · cases h
  · split at h
    · rename_i he
      obtain ⟨e, he⟩ := Option.isSome_iff_exists.1 he
      cases h
      cases hx
      exact ⟨_, by simp [Builtin.len_, run_underlying (elem_run he), goInt], .int _ _⟩
    · cases h
  · cases h
theorem minmax_run {ts : Array TypeId} {ty : TypeId} {isMax : Bool} {xs : List AV} {vs : List Value} {r : AV} (h : aminmax isMax xs = some r) (hl : vs.length = xs.length) (hx : ∀ (j : Nat) (x : AV), xs[j]? = some x → ∃ v, vs[j]? = some v ∧ RelV E s w x v) :
    ∃ u, ((if isMax then Builtin.max_ ts ty vs.toArray else Builtin.min_ ts ty vs.toArray)).run P w = .ok u w ∧ RelV E s w r u := by
  unfold aminmax at h
  split at h
  · rename_i k a k' b
    split at h
    · rename_i hk
      subst hk
      cases h
      match vs, hl with
      | [v1, v2], _ =>
        obtain ⟨v, h1, h2⟩ := hx 0 _ rfl
        obtain ⟨v', h3, h4⟩ := hx 1 _ rfl
        simp only [List.getElem?_cons_zero, Option.some.injEq] at h1
        simp only [List.getElem?_cons_succ, List.getElem?_cons_zero, Option.some.injEq] at h3
        subst h1 h3
        cases h2
        cases h4
        cases isMax
        · exact ⟨_, by simp [Builtin.min_, Builtin.min2], .int _ _⟩
        · exact ⟨_, by simp [Builtin.max_, Builtin.max2], .int _ _⟩
    · cases h
  · cases h
end AM
end Go.Proofs.Ytlgdiloddphgnaa
