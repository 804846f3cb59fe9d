/- The value machine: calls; a call without arguments. -/
import Derived.Test.YtlgdiloddphgnaaAM11
set_option linter.unusedSimpArgs false
set_option linter.unusedVariables false
namespace Go.Proofs.Ytlgdiloddphgnaa
open Go.RowKit
namespace AM
variable {P : Program} {call : Callee} {ops : Array Oper} {E : Env} {s : St} {w : World}

theorem resVals_run (hR : Rel P E s w) {a : Fr} {us : Array Value} (hA : RelA E s w a us) : ∀ (l : List ResultVar) (vs : List AV), resVals P s a l = some vs → ∃ us' : List Value, (l.mapM fun (r : ResultVar) => (match r with | .tmp t => pure (us.getD t undef) | .cell a t => do loadVar t (← asAddr (us.getD a undef)) : Sem Value)).run P w = .ok us' w ∧ us'.length = vs.length ∧ ∀ (j : Nat) (x : AV), vs[j]? = some x → RelV E s w x (us'.getD j undef)
  | [], vs, h => by
    simp only [resVals, Option.some.injEq] at h
    subst h
    exact ⟨[], by simp, rfl, by simp⟩
  | .tmp t :: l, vs, h => by
    simp only [resVals] at h
    cases hl : resVals P s a l with
    | none => simp [hl] at h
    | some vs' =>
      simp [hl] at h
      subst h
      obtain ⟨us', h1, h2, h3⟩ := resVals_run hR hA l vs' hl
      refine ⟨us.getD t undef :: us', ?_, by simp [h2], fun j x hj => ?_⟩
      · simp only [List.mapM_cons, Sem.run_bind, Sem.run_pure, Result.andThen_ok, List.map_cons]
        rw [h1]
        rfl
      · cases j with
        | zero =>
          have e : a.getD t .no = x := by simpa using hj
          subst e
          exact relV_ev (d := []) hA (.tmp t)
        | succ j => exact h3 j x (by simpa using hj)
  | .cell b t :: l, vs, h => by
    simp only [resVals] at h
    split at h
    · rename_i v vs' hv hl
      cases h
      obtain ⟨us', h1, h2, h3⟩ := resVals_run hR hA l vs' hl
      have hb := relV_ev (d := []) hA (.tmp b)
      obtain ⟨u, h4, h5⟩ := aload_run hR hv hb
      have hp : ∃ ad, Act.eval ⟨us, []⟩ (.tmp b) = .pointer (some ad) := by
        unfold aload at hv
        split at hv
        · rename_i o off hev
          have hb' : RelV E s w (.ptr o off) (Act.eval ⟨us, []⟩ (.tmp b)) := by rw [← hev]; exact hb
          generalize Act.eval ⟨us, []⟩ (.tmp b) = q at hb'
          cases hb'
          exact ⟨_, rfl⟩
        · rename_i xs hev
          have hb' : RelV E s w (.view xs) (Act.eval ⟨us, []⟩ (.tmp b)) := by rw [← hev]; exact hb
          generalize Act.eval ⟨us, []⟩ (.tmp b) = q at hb'
          cases hb'
          exact ⟨_, rfl⟩
        · cases hv
      obtain ⟨ad, hp⟩ := hp
      rw [hp] at h4
      have h6 : (loadVar t ad).run P w = .ok u w := by simpa [Instr.loadAt, Instr.sureAddr] using h4
      have hp' : (asAddr (us.getD b undef)).run P w = .ok ad w := by
        have e : us.getD b undef = .pointer (some ad) := hp
        rw [e]
        rfl
      refine ⟨u :: us', ?_, by simp [h2], fun j x hj => ?_⟩
      · simp only [List.mapM_cons, Sem.run_bind, hp', Sem.run_pure, Result.andThen_ok, h6]
        rw [h1]
        rfl
      · cases j with
        | zero =>
          have e : v = x := by simpa using hj
          subst e
          exact h5
        | succ j => exact h3 j x (by simpa using hj)
    · cases h
theorem result_rel {vs : List AV} {us : List Value} (hl : us.length = vs.length) (hx : ∀ (j : Nat) (x : AV), vs[j]? = some x → RelV E s w x (us.getD j undef)) : RelV E s w (aresult vs) (if h : us.toArray.size = 1 then us.toArray[0] else .tuple us.toArray) := by
  unfold aresult
  split
  · rename_i v
    match us, hl with
    | [u], _ => simpa using hx 0 v rfl
  · rename_i l hne
    have h1 : ¬ us.toArray.size = 1 := by
      intro h1
      simp at h1
      match vs, hl, h1 with
      | [v], _, _ => exact hne v rfl
      | [], h, h1 => simp [h] at h1
      | _ :: _ :: _, h, h1 => simp [h] at h1
    rw [dif_neg h1]
    refine .tup _ _ (by simpa using hl) (fun j x hj => ?_)
    have := hx j x hj
    have hlt : j < us.length := by rw [hl]; exact (List.getElem?_eq_some_iff.1 hj).1
    simpa [Array.getD, List.getD, hlt] using this
theorem relA_args {a : Fr} {us : Array Value} (hA : RelA E s w a us) (n : Nat) : RelA E s w (a ++ List.replicate n .no) (us ++ Array.replicate n undef) := by
  refine relA_append hA ⟨by simp, fun j x hj => ?_⟩
  rw [List.getElem?_replicate] at hj
  split at hj
  · rename_i hlt
    cases hj
    have : (Array.replicate n undef).getD j undef = undef := by simp [Array.getD, hlt]
    rw [this]
    exact .no
  · cases hj
def NamesOK (P : Program) : Prop := ∀ (f : Nat) (fn : Func), P.funcs[f]? = some fn → fn.name ≠ "runtime.NumGoroutine"
theorem body_ok (hm : P.follows .mixedOrders = true) (hN : NamesOK P) {m : Nat} (hC : CallOK P call) : CallOK P (abody P call m) := by
  intro g args s x s' h
  unfold abody at h
  split at h
  · rename_i fn hf
    split at h
    · rename_i c hb
      refine ⟨fun args' w => ?_, fun E w us hA hR => ?_⟩
      · simp [callFunc, hf, hN g fn hf, hb]
      · refine calls_of_wp hf hb ?_
        have hl : us.size = args.length := hA.1
        have hA' := relA_args hA (fn.ntmps - args.length)
        have fin : ∀ (y : AX) (af : Fr) (sf : St), (y = .normal ∨ y = .ret) → acode P call m c (args ++ List.replicate (fn.ntmps - args.length) .no) s = some (y, af, sf) → (resVals P sf af fn.results.toList).map (fun vs => (aresult vs, sf)) = some (x, s') → c.wp P (bodyPost P fn fun e w' => ∃ u E', e = .returned u ∧ RelV E' s' w' x u ∧ Le E s w E' s' w' ∧ Rel P E' s' w') { tmps := us ++ Array.replicate (fn.ntmps - us.size) undef, defers := [] } w := by
          intro y af sf hy hc hv
          cases hvs : resVals P sf af fn.results.toList with
          | none => simp [hvs] at hv
          | some vs =>
            simp [hvs] at hv
            obtain ⟨rfl, rfl⟩ := hv
            rw [hl]
            refine code_sim hm hC m c _ E s w _ _ y af sf hR hA' hc fun E' us' w' h1 h2 h3 => ?_
            obtain ⟨us2, r1, r2, r3⟩ := resVals_run h3 h2 _ _ hvs
            have hres : (results fn us').run P w' = .ok (if h : us2.toArray.size = 1 then us2.toArray[0] else .tuple us2.toArray) w' := by
              unfold results
              simp only [Array.mapM_eq_mapM_toList]
              simp only [Sem.run_bind, map_eq_pure_bind]
              erw [r1]
              simp
            have hv := result_rel r2 r3
            rcases hy with rfl | rfl
            · exact ⟨rfl, _, hres, _, E', rfl, hv, h1, h3⟩
            · exact ⟨rfl, _, hres, _, E', rfl, hv, h1, h3⟩
        split at h
        · rename_i a' s1 hc
          exact fin .normal a' s1 (.inl rfl) hc h
        · rename_i a' s1 hc
          exact fin .ret a' s1 (.inr rfl) hc h
        · cases h
    · cases h
  · cases h
theorem call_ok (hm : P.follows .mixedOrders = true) (hN : NamesOK P) {prim : Callee} (hp : CallOK P prim) : ∀ n, CallOK P (acall P prim n)
  | 0 => fun g args s x s' h => by cases h
  | n + 1 => fun g args s x s' h => by
    simp only [acall] at h
    split at h
    · rename_i r hr
      cases h
      exact hp g args s x s' hr
    · exact body_ok hm hN (call_ok hm hN hp n) g args s x s' h

/-- Nothing is there yet. -/
def St.nil : St := ⟨[]⟩
def Env.nil : Env := ⟨fun _ => 0, fun _ => 0, fun _ => 0⟩
theorem Rel.nil (P : Program) (w : World) : Rel P Env.nil St.nil w :=
  ⟨fun k t cs h => by simp [St.get, St.nil] at h, fun k t n h => by simp [St.get, St.nil] at h, fun k k' h => by simp [St.next, St.nil] at h, fun _ _ => rfl⟩
theorem Le.below {E' : Env} {s s' : St} {w' : World} (h : Le E s w E' s' w') (hn : s.next = 0) : Below w.heap.size w w' :=
  ⟨h.os, h.tape, h.output, h.size, fun k hk => h.far k hk fun i hi => by omega⟩
/-- A call without arguments that answers with a Bool. -/
theorem closed_bool {f : FuncId} {b : Bool} {s' : St} {call : Callee} (hC : CallOK P call) (h : call f [] St.nil = some (.bool b, s')) (w : World) : Calls P f #[] w fun e w' => e = .returned (.bool b) ∧ Below w.heap.size w w' := by
  obtain ⟨_, h2⟩ := hC f [] St.nil _ _ h
  refine (h2 Env.nil w #[] ⟨rfl, fun j x hj => by simp at hj⟩ (Rel.nil P w)).mono fun e w' he => ?_
  obtain ⟨u, E', rfl, hu, hL, _⟩ := he
  cases hu
  exact ⟨rfl, hL.below rfl⟩
end AM
end Go.Proofs.Ytlgdiloddphgnaa
