/- The value machine: regions, code, calls. -/
import Derived.Test.YtlgdiloddphgnaaAM10
import Derived.Scope
set_option linter.unusedSimpArgs false
set_option linter.unusedVariables false
namespace Go.Proofs.Ytlgdiloddphgnaa
open Go.RowKit
namespace AM
variable {P : Program} {call : Callee} {ops : Array Oper} {E : Env} {s : St} {w : World}

theorem wants_sound {a : Fr} {us : Array Value} (hA : RelA E s w a us) {o : Oper} {b : Bool} (h : wants ops a o = some b) : Region.wanted o (yielded ops us) = b := by
  unfold wants at h
  unfold Region.wanted
  cases hg : o.guard with
  | none =>
    rw [hg] at h
    simpa using h
  | some gw =>
    obtain ⟨j, want⟩ := gw
    rw [hg] at h
    simp only at h ⊢
    unfold yielded
    cases hd : (ops[j]?).bind (·.dst) with
    | none =>
      rw [hd] at h
      simp at h ⊢
      rw [← h]
    | some t =>
      rw [hd] at h
      simp only [Option.bind_some] at h ⊢
      cases ht : a[t]? with
      | none =>
        rw [ht] at h
        have hge : us.size ≤ t := by
          rw [hA.1]
          exact List.getElem?_eq_none_iff.1 ht
        rw [Array.getElem?_eq_none hge]
        simp at h ⊢
        rw [← h]
      | some y =>
        rw [ht] at h
        have hlt : t < us.size := by
          rw [hA.1]
          exact (List.getElem?_eq_some_iff.1 ht).1
        have hy := hA.2 t y ht
        rw [getD_get hlt]
        generalize us.getD t undef = u at hy
        cases hy <;> simp at h ⊢ <;> first | exact h | (rw [← h]; done) | (rw [← h]; simp [undef]; done) | (subst h; rfl)
theorem put_eta (us : Array Value) (d : List Deferred) (dst : Option Tmp) (v : Value) : (Act.put ⟨us, d⟩ dst v) = ⟨(Act.put ⟨us, d⟩ dst v).tmps, d⟩ := by cases dst <;> rfl

theorem relA_append {a b : Fr} {us vs : Array Value} (h : RelA E s w a us) (k : RelA E s w b vs) : RelA E s w (a ++ b) (us ++ vs) := by
  refine ⟨by simp [h.1, k.1], fun j x hj => ?_⟩
  rw [List.getElem?_append] at hj
  split at hj
  · rename_i hlt
    have := h.2 j x hj
    have hl : j < us.size := by rw [h.1]; exact hlt
    have e : (us ++ vs).getD j undef = us.getD j undef := by
      have : j < us.size + vs.size := by omega
      simp [Array.getD, hl, this, Array.getElem_append]
    rw [e]
    exact this
  · rename_i hlt
    have h1 := k.2 _ x hj
    have hl : j - a.length < vs.size := by rw [k.1]; exact (List.getElem?_eq_some_iff.1 hj).1
    have hge : us.size ≤ j := by have := h.1; omega
    have e : (us ++ vs).getD j undef = vs.getD (j - a.length) undef := by
      have h2 : j < us.size + vs.size := by have := h.1; omega
      have h3 : ¬ j < us.size := by omega
      have h4 : j - us.size < vs.size := by have := h.1; omega
      have h5 : a.length = us.size := h.1.symm
      simp [Array.getD, h2, h3, h4, Array.getElem_append, h5]
    rw [e]
    exact h1
theorem relA_map {a : Fr} {us : Array Value} {d : List Deferred} (hA : RelA E s w a us) (xs : Array Operand) : RelA E s w (xs.toList.map (ev a)) (xs.map (Act.eval ⟨us, d⟩)) := by
  refine ⟨by simp, fun j x hj => ?_⟩
  rw [List.getElem?_map] at hj
  cases hx : xs.toList[j]? with
  | none => simp [hx] at hj
  | some o =>
    have e : ev a o = x := by simpa [hx] using hj
    subst e
    have hlt : j < xs.size := by have := (List.getElem?_eq_some_iff.1 hx).1; simpa using this
    have : (xs.map (Act.eval ⟨us, d⟩)).getD j undef = Act.eval ⟨us, d⟩ o := by
      simp [hlt] at hx
      simp [Array.getD, hlt, hx]
    rw [this]
    exact relV_ev hA o

/-- One operation of a region. -/
theorem step_sim (hC : CallOK P call) (hR : Rel P E s w) {a : Fr} {us : Array Value} {d : List Deferred} (hA : RelA E s w a us) {o : Oper} {a1 : Fr} {s1 : St} (h : astep P call ops o a s = some (a1, s1)) {Q : Exit → Act → World → Prop} {K : Act → World → Prop}
    (hK : ∀ E' us' w', Le E s w E' s1 w' → RelA E' s1 w' a1 us' → Rel P E' s1 w' → K ⟨us', d⟩ w') : if Region.wanted o (yielded ops us) then o.wp P ⟨us, d⟩ w K Q else K ((⟨us, d⟩ : Act).put o.dst undef) w := by
  unfold astep at h
  split at h
  · rename_i hw
    rw [if_pos (wants_sound hA hw)]
    cases hop : aop P call o a s with
    | none => simp [hop] at h
    | some r =>
      obtain ⟨x, s'⟩ := r
      simp [hop] at h
      obtain ⟨rfl, rfl⟩ := h
      cases hcv : isCallV o.op with
      | false =>
        obtain ⟨q, w', E', hr, h1, h2, h3⟩ := op_fine (d := d) hR hA hcv hop
        unfold Oper.wp
        have fin : ∀ q', RelV E' s' w' x q' → K ((⟨us, d⟩ : Act).put o.dst q') w' := fun q' hq => by
          rw [put_eta]
          exact hK E' _ w' h2 ((hA.mono h2).put o.dst hq) h3
        rcases hr with hr | ⟨hr, rfl⟩
        · rw [hr]
          exact fin q h1
        · rw [hr]
          exact fin undef h1
      | true =>
        obtain ⟨dst, op, type, pos, after, guard⟩ := o
        cases op <;> simp only [isCallV, Bool.false_eq_true] at hcv
        rename_i c
        cases hc : c.callee with
        | invoke r m => simp [hc] at hcv
        | builtin b => simp [hc] at hcv
        | value f =>
          simp only [aop, acallOp, hc] at hop
          split at hop
          · rename_i g first caps hf
            have hfv := relV_ev (d := d) hA f
            rw [hf] at hfv
            cases hcf : Act.eval ⟨us, d⟩ f <;> rw [hcf] at hfv <;> cases hfv
            rename_i us1 vs1 k1 k2 k3 k4
            obtain ⟨c1, c2⟩ := hC g _ s x s' hop
            have hargs : RelA E s w (first ++ (c.args.toList.map (ev a)) ++ caps) (us1 ++ c.args.map (Act.eval ⟨us, d⟩) ++ vs1) := relA_append (relA_append ⟨by assumption, by assumption⟩ (relA_map hA c.args)) ⟨by assumption, by assumption⟩
            have hcall := c2 E w _ hargs hR
            unfold Oper.wp
            simp only [execOp, resolve, hc, hcf, Deferred.ofValue, Sem.run_bind, Sem.run_pure, Result.andThen_ok, invoke, c1]
            refine hcall.mono fun e w' he => ?_
            obtain ⟨u, E', rfl, h1, h2, h3⟩ := he
            show K ((⟨us, d⟩ : Act).put dst u) w'
            rw [put_eta]
            exact hK E' _ w' h2 ((hA.mono h2).put dst h1) h3
          · cases hop
  · rename_i hw
    have hw' := wants_sound hA hw
    simp only [Option.some.injEq, Prod.mk.injEq] at h
    obtain ⟨rfl, rfl⟩ := h
    rw [hw', if_neg (by simp), put_eta]
    exact hK E _ w (Le.refl _ _ _) (hA.put o.dst .no) hR
  · cases h

/-- A region in the text's order. -/
theorem ops_sim (hC : CallOK P call) {d : List Deferred} {Q : Exit → Act → World → Prop} : ∀ (l : List Oper) (E : Env) (s : St) (w : World) (a : Fr) (us : Array Value) (af : Fr) (sf : St), Rel P E s w → RelA E s w a us → aops P call ops l a s = some (af, sf) →
    (∀ E' us' w', Le E s w E' sf w' → RelA E' sf w' af us' → Rel P E' sf w' → Q .normal ⟨us', d⟩ w') → wpList P ops Q l ⟨us, d⟩ w
  | [], E, s, w, a, us, af, sf, hR, hA, h, hQ => by
    simp only [aops, Option.some.injEq, Prod.mk.injEq] at h
    obtain ⟨rfl, rfl⟩ := h
    exact hQ E us w (Le.refl _ _ _) hA hR
  | o :: l, E, s, w, a, us, af, sf, hR, hA, h, hQ => by
    simp only [aops] at h
    split at h
    · rename_i a' s' hst
      refine wpList_step fun K hK => ?_
      refine step_sim hC hR hA hst fun E' us' w' h1 h2 h3 => hK _ _ ?_
      exact ops_sim hC l E' s' w' a' us' af sf h3 h2 h fun E2 us2 w2 k1 k2 k3 => hQ E2 us2 w2 (h1.trans k1) k2 k3
    · cases h
/-- A region in whatever order. -/
theorem any_sim (hC : CallOK P call) {d : List Deferred} {Q : Exit → Act → World → Prop} {af : Fr} {sf : St} : ∀ (fuel : Nat) (listed : Array Bool) (E : Env) (s : St) (w : World) (a : Fr) (us : Array Value), Rel P E s w → RelA E s w a us → AAll P call ops af sf fuel listed a s →
    (∀ E' us' w', Le E s w E' sf w' → RelA E' sf w' af us' → Rel P E' sf w' → Q .normal ⟨us', d⟩ w') → wpAny P .any ops Q fuel listed ⟨us, d⟩ w
  | 0, listed, E, s, w, a, us, hR, hA, h, hQ => by
    obtain ⟨h1, rfl, rfl⟩ := h
    exact ⟨h1, hQ E us w (Le.refl _ _ _) hA hR⟩
  | fuel + 1, listed, E, s, w, a, us, hR, hA, h, hQ => by
    refine ⟨fun h0 => ?_, fun i hi => ?_⟩
    · obtain ⟨rfl, rfl⟩ := h.1 h0
      exact hQ E us w (Le.refl _ _ _) hA hR
    · obtain ⟨a1, s1, hst, hrest⟩ := h.2 i hi
      unfold wpOp
      unfold stepI at hst
      have next : ∀ E' us' w', Le E s w E' s1 w' → RelA E' s1 w' a1 us' → Rel P E' s1 w' → wpAny P .any ops Q fuel (listed.setIfInBounds i true) ⟨us', d⟩ w' := fun E' us' w' h1 h2 h3 =>
        any_sim hC fuel _ E' s1 w' a1 us' h3 h2 hrest fun E2 us2 w2 k1 k2 k3 => hQ E2 us2 w2 (h1.trans k1) k2 k3
      cases ho : ops[i]? with
      | none =>
        rw [ho] at hst
        simp only [Option.some.injEq, Prod.mk.injEq] at hst
        obtain ⟨rfl, rfl⟩ := hst
        exact next E us w (Le.refl _ _ _) hA hR
      | some o =>
        rw [ho] at hst
        simp only at hst ⊢
        have := step_sim (Q := Q) (K := wpAny P .any ops Q fuel (listed.setIfInBounds i true)) hC hR hA hst next
        split
        · rename_i hw
          rw [if_pos hw] at this
          exact .inl this
        · rename_i hw
          rw [if_neg hw] at this
          exact this
theorem Le.draw (E : Env) (s : St) (w : World) (n : Nat) : Le E s w E s { w with drawn := n } :=
  ⟨fun _ _ cs h => ⟨rfl, cs, h⟩, fun _ _ n h => ⟨n, h, Nat.le_refl _, fun _ => ⟨rfl, rfl⟩⟩, fun _ => Nat.le_refl _, fun _ _ _ => rfl, Nat.le_refl _, fun _ _ _ => rfl, fun k hk => .inl ⟨k, hk, rfl⟩, Nat.le_refl _, rfl, rfl, rfl⟩
theorem Rel.draw (h : Rel P E s w) (n : Nat) : Rel P E s { w with drawn := n } :=
  ⟨fun k t cs hk => by
    obtain ⟨arr, a1, a2, a3, a4⟩ := h.obj k t cs hk
    exact ⟨arr, a1, a2, fun j x hj => (a3 j x hj).mono (Le.draw E s w n), a4⟩, h.tip, h.inj, h.lim⟩
theorem region_sim (hm : P.follows .mixedOrders = true) (hC : CallOK P call) {d : List Deferred} {Q : Exit → Act → World → Prop} {id : Nat} {draw : Bool} {a : Fr} {us : Array Value} {af : Fr} {sf : St} (hR : Rel P E s w) (hA : RelA E s w a us) (h : aregion P call ops draw a s = some (af, sf))
    (hQ : ∀ E' us' w', Le E s w E' sf w' → RelA E' sf w' af us' → Rel P E' sf w' → Q .normal ⟨us', d⟩ w') : (Code.region id ops draw).wp P Q ⟨us, d⟩ w := by
  unfold aregion at h
  cases draw with
  | false =>
    simp only [Bool.false_eq_true, if_false] at h
    exact wp_region_list (ops_sim hC ops.toList E s w a us af sf hR hA h hQ)
  | true =>
    simp only [if_true] at h
    split at h
    · rename_i hOK
      refine wp_region_any hm ?_
      have hrun := run_of_draw (s0 := s) _ a s (fun k _ => rfl) h
      have e : leftOf ops.size (Array.replicate ops.size false) = List.range ops.size := by
        unfold leftOf
        rw [List.filter_eq_self]
        intro i hi
        rw [List.mem_range] at hi
        simp [Array.getD, hi]
      have hall := aall_of_run (call := call) hOK ops.size (Array.replicate ops.size false) a s (by simp) (fun i o ho hl => by
        have hi : i < ops.size := (Array.getElem?_eq_some_iff.1 ho).1
        simp [Array.getD, hi] at hl) (by rw [e]; simp) (fun k _ => rfl) (by rw [e]; exact hrun)
      refine any_sim hC ops.size _ E s _ a us (hR.draw _) (hA.mono (Le.draw E s w _)) hall fun E' us' w' h1 h2 h3 => hQ E' us' w' ((Le.draw E s w _).trans h1) h2 h3
    · cases h

/-! ### Code -/
def AX.conc : AX → Exit
  | .normal => .normal
  | .exit id => .exit id
  | .ret => .ret
theorem code_sim (hm : P.follows .mixedOrders = true) (hC : CallOK P call) {d : List Deferred} : ∀ (m : Nat) (c : Code) (Q : Exit → Act → World → Prop) (E : Env) (s : St) (w : World) (a : Fr) (us : Array Value) (x : AX) (af : Fr) (sf : St), Rel P E s w → RelA E s w a us → acode P call m c a s = some (x, af, sf) →
    (∀ E' us' w', Le E s w E' sf w' → RelA E' sf w' af us' → Rel P E' sf w' → Q x.conc ⟨us', d⟩ w') → c.wp P Q ⟨us, d⟩ w := by
  intro m
  induction m using Nat.strongRecOn with
  | _ m0 ih0 =>
  cases m0 with
  | zero =>
    intro c Q E s w a us x af sf hR hA h hQ
    cases h
  | succ m =>
    have ih := ih0 m (Nat.lt_succ_self m)
    intro c Q E s w a us x af sf hR hA h hQ
    cases c <;> simp only [acode, reduceCtorEq] at h
    case skip =>
      cases h
      exact wp_skip (hQ E us w (Le.refl _ _ _) hA hR)
    case label l =>
      cases h
      exact wp_label (hQ E us w (Le.refl _ _ _) hA hR)
    case ret =>
      cases h
      exact wp_ret (hQ E us w (Le.refl _ _ _) hA hR)
    case scope c1 =>
      refine wp_scope_straight (ih c1 _ E s w a us x af sf hR hA h fun E' us' w' k1 k2 k3 => ?_)
      have := hQ E' us' w' k1 k2 k3
      cases x <;> exact this
    case exit id =>
      cases h
      exact wp_exit (hQ E us w (Le.refl _ _ _) hA hR)
    case region id ops draw =>
      cases hr : aregion P call ops draw a s with
      | none => simp [hr] at h
      | some r =>
        obtain ⟨a', s'⟩ := r
        simp [hr] at h
        obtain ⟨rfl, rfl, rfl⟩ := h
        exact region_sim hm hC hR hA hr hQ
    case seq c1 c2 =>
      refine wp_seq ?_
      split at h
      · rename_i a' s' h1
        exact ih c1 _ E s w a us .normal a' s' hR hA h1 fun E' us' w' k1 k2 k3 => ih c2 Q E' s' w' a' us' x af sf k3 k2 h fun E2 us2 w2 l1 l2 l3 => hQ E2 us2 w2 (k1.trans l1) l2 l3
      · rename_i hne
        refine ih c1 _ E s w a us x af sf hR hA h fun E' us' w' k1 k2 k3 => ?_
        have := hQ E' us' w' k1 k2 k3
        cases x with
        | normal => exact absurd h (hne af sf)
        | exit id => exact this
        | ret => exact this
    case cond cnd c1 c2 =>
      split at h
      · rename_i b hb
        have hv := relV_ev (d := d) hA cnd
        rw [hb] at hv
        cases hcv : Act.eval ⟨us, d⟩ cnd <;> rw [hcv] at hv <;> cases hv
        exact wp_cond hcv (ih _ Q E s w a us x af sf hR hA h hQ)
      · cases h
    case block id c1 =>
      refine wp_block ?_
      split at h
      · rename_i i a' s' h1
        refine ih c1 _ E s w a us (.exit i) a' s' hR hA h1 fun E' us' w' k1 k2 k3 => ?_
        show if i = id then Q .normal _ _ else Q (.exit i) _ _
        split at h
        · rename_i e
          cases h
          rw [if_pos e]
          exact hQ E' us' w' k1 k2 k3
        · rename_i e
          cases h
          rw [if_neg e]
          exact hQ E' us' w' k1 k2 k3
      · rename_i hne
        refine ih c1 _ E s w a us x af sf hR hA h fun E' us' w' k1 k2 k3 => ?_
        have := hQ E' us' w' k1 k2 k3
        cases x with
        | normal => exact this
        | exit id => exact absurd h (hne id af sf)
        | ret => exact this
    case loop c1 =>
      -- as many rounds as there is fuel
      have key : ∀ (k : Nat), k ≤ m + 1 → ∀ (E : Env) (s : St) (w : World) (a : Fr) (us : Array Value), Rel P E s w → RelA E s w a us → acode P call k (.loop c1) a s = some (x, af, sf) → (∀ E' us' w', Le E s w E' sf w' → RelA E' sf w' af us' → Rel P E' sf w' → Q x.conc ⟨us', d⟩ w') → Code.rounds P c1 Q k ⟨us, d⟩ w := by
        intro k
        induction k with
        | zero =>
          intro _ E s w a us hR hA h hQ
          cases h
        | succ k ihk =>
          intro hk E s w a us hR hA h hQ
          rw [rounds_succ]
          simp only [acode] at h
          have ih' := ih0 k (by omega)
          split at h
          · rename_i a' s' h1
            exact ih' c1 _ E s w a us .normal a' s' hR hA h1 fun E' us' w' k1 k2 k3 => ihk (by omega) E' s' w' a' us' k3 k2 h fun E2 us2 w2 l1 l2 l3 => hQ E2 us2 w2 (k1.trans l1) l2 l3
          · rename_i hne
            refine ih' c1 _ E s w a us x af sf hR hA h fun E' us' w' k1 k2 k3 => ?_
            have := hQ E' us' w' k1 k2 k3
            cases x with
            | normal => exact absurd h (hne af sf)
            | exit id => exact this
            | ret => exact this
      exact wp_loop_rounds (m + 1) (key (m + 1) (Nat.le_refl _) E s w a us hR hA (by simp only [acode]; exact h) hQ)
end AM
end Go.Proofs.Ytlgdiloddphgnaa
