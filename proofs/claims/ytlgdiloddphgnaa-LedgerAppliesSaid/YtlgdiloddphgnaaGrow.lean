/- append onto a list that is full (cap = len): a new row. Plain lemmas over any program. -/
import Derived.Test.YtlgdiloddphgnaaOwn
import Derived.ArgAppend
namespace Go.Proofs.Ytlgdiloddphgnaa
open Go.RowKit
section
variable {α : Type} {d : Kn α} {e : TypeId} {S S2 : Nat → Prop} {w w1 : World} {xs ys : List α}

/-- The cells of a list in a row. -/
theorem Sl.flatten {A : Option Addr} {n cap : Nat} (h : Sl d S w A n cap xs) : ∃ inner : List (List Value), inner.length = xs.length ∧ (∀ (i : Nat) (c : List Value) (x : α), inner[i]? = some c → xs[i]? = some x → d.R S w c x) ∧ inner.flatten.length = n * d.sz ∧
    (∀ u ∈ inner.flatten, u.oneCell' = true) ∧ ∀ ad, A = some ad → ∀ (j : Nat) (u : Value), inner.flatten[j]? = some u → w.cell? (ad.add j) = some u := by
  obtain ⟨inner2, hl2, hp2⟩ := choose_list xs (fun i x c => d.R S w c x ∧ ∀ (j : Nat) (u : Value), c[j]? = some u → ∃ b off, A = some ⟨b, off, none⟩ ∧ w.cell? ⟨b, off + i * d.sz + j, none⟩ = some u) (fun i x hix => by
    obtain ⟨b, off, c, hA, _, hR, hc⟩ := h.row i x hix
    exact ⟨c, hR, fun j u hu => ⟨b, off, hA, hc j u hu⟩⟩)
  have hyl := h.hl
  have hall2 : ∀ c ∈ inner2, c.length = d.sz := fun c hcm => by
    obtain ⟨q, hq, rfl⟩ := List.getElem_of_mem hcm
    exact d.len (hp2 q _ _ (List.getElem?_eq_getElem hq) (List.getElem?_eq_getElem (by omega))).1
  refine ⟨inner2, hl2, fun i c x h1 h2 => (hp2 i c x h1 h2).1, by rw [flat_len inner2 hall2, hl2, hyl], ?_, ?_⟩
  · intro u hu
    obtain ⟨c, hcm, huc⟩ := List.mem_flatten.1 hu
    obtain ⟨q, hq, rfl⟩ := List.getElem_of_mem hcm
    exact d.one (hp2 q _ _ (List.getElem?_eq_getElem hq) (List.getElem?_eq_getElem (by omega))).1 u huc
  · intro ad hA j u hu
    obtain ⟨i, j', c, hic, hcj, rfl⟩ := flat_inv inner2 hall2 j u hu
    have hiy : i < xs.length := by have := (List.getElem?_eq_some_iff.1 hic).1; omega
    obtain ⟨b', off', e1, hcell⟩ := (hp2 i c _ hic (List.getElem?_eq_getElem hiy)).2 j' u hcj
    rw [hA] at e1
    simp only [Option.some.injEq] at e1
    subst e1
    have ea : (⟨b', off', none⟩ : Addr).add (i * d.sz + j') = ⟨b', off' + i * d.sz + j', none⟩ := by
      unfold Addr.add
      split
      · simp only [Addr.mk.injEq, true_and, and_true]
        omega
      · simp only [Addr.mk.injEq, true_and, and_true]
        omega
    rw [ea]
    exact hcell

/-- append(s, ys...) where there is no room. -/
theorem Sl.grow_run {P : Program} {t ty : TypeId} {z : Value} {bytes : Nat} {A A2 : Option Addr} {n cap m c : Nat} (F : AppF P t e z d.sz bytes) (h : Sl d S w A n cap xs) (hy : Sl d S2 w A2 m c ys)
    (hm : 0 < m) (hcap : cap < n + m) (hnone : A = none → cap = 0) (hl : (n + m) * bytes ≤ 140737488355328) :
    ∃ A' c' w', (Builtin.append_ #[t, t] ty #[.slice A n cap, .slice A2 m c]).run P w = .ok (.slice A' (n + m) c') w' ∧ Sl d (fun k => (S k ∨ S2 k) ∨ w.heap.size ≤ k) w' A' (n + m) c' (xs ++ ys) ∧ w.grownBy w' none := by
  obtain ⟨i0, hi, hzz⟩ := Option.map_eq_some_iff.1 F.info
  simp only [Prod.mk.injEq] at hzz
  obtain ⟨hz0, hz1, hz2⟩ := hzz
  obtain ⟨inner, i1, i2, i3, i4, i5⟩ := h.flatten
  obtain ⟨inner2, k1, k2, k3, k4, k5⟩ := hy.flatten
  have hxl := h.hl
  have hyl := hy.hl
  have hlen : n + m ≤ 140737488355328 := Nat.le_trans (Nat.le_mul_of_pos_right _ F.hb) hl
  obtain ⟨b2, off2, c2, hA2, _, _, _⟩ := hy.row 0 (ys[0]'(by omega)) (List.getElem?_eq_getElem (by omega))
  subst hA2
  have main : ∃ v' w', (Builtin.append_ #[t, t] ty #[.slice A n cap, .slice (some ⟨b2, off2, none⟩) m c]).run P w = .ok v' w' ∧ w'.ownsRow w.heap.size e d.sz v' (n + m) (inner.flatten ++ inner2.flatten) ∧ w.grownBy w' none := by
    cases A with
    | some a =>
      exact run_append_arg_grows (P := P) w t ty e i0 z d.sz bytes F.ht hi hz0 hz1 hz2 F.hz F.hs a n cap inner.flatten i3 (i5 a rfl) ⟨b2, off2, none⟩ m c inner2.flatten k3 (k5 _ rfl) hcap (by simp only [maxLen]; omega) hl
    | none =>
      have hc0 := hnone rfl
      subst hc0
      have hn0 : n = 0 := by have := h.hc; omega
      subst hn0
      have he : inner.flatten = [] := List.eq_nil_of_length_eq_zero (by simpa using i3)
      obtain ⟨v', w', hrun, r1, r2, _⟩ := run_append_own (P := P) w w.heap.size t ty e i0 z d.sz bytes F.ht hi hz0 hz1 hz2 F.hz F.hs (.slice none 0 0) 0 [] (World.ownsRow_nil w _ e d.sz) ⟨b2, off2, none⟩ m c inner2.flatten k3 (k5 _ rfl) k4 (by simp only [maxLen]; omega) hl (Nat.le_refl _)
      rw [he]
      exact ⟨v', w', hrun, r1, r2⟩
  obtain ⟨v', w', hrun, hown, hg⟩ := main
  have hO : OwnL d e (fun k => S k ∨ S2 k) w' w.heap.size v' (xs ++ ys) := by
    refine ⟨inner ++ inner2, by rw [List.length_append, List.length_append, i1, k1], ?_, ?_⟩
    · rw [List.length_append, hxl, hyl, List.flatten_append]
      exact hown
    · have hfar : ∀ k, k < w.heap.size → some k ≠ v'.ownBlock := fun k hk e1 => by
        have := (ownsRow_blk hown k e1.symm).1
        omega
      intro i cc x hic hix
      rcases Nat.lt_or_ge i inner.length with hlt | hge
      · rw [List.getElem?_append_left hlt] at hic
        rw [List.getElem?_append_left (by omega)] at hix
        exact d.keep (i2 i cc x hic hix) fun k hk hklt => ⟨hg.block k hklt (by simp), .inl hk, hfar k hklt⟩
      · rw [List.getElem?_append_right hge] at hic
        rw [List.getElem?_append_right (by omega)] at hix
        rw [← i1] at hix
        exact d.keep (k2 _ cc x hic hix) fun k hk hklt => ⟨hg.block k hklt (by simp), .inr hk, hfar k hklt⟩
  obtain ⟨A', c', rfl, hs⟩ := hO.slice' (m := n + m) (by rw [List.length_append, hxl, hyl])
  exact ⟨A', c', w', hrun, hs.mono fun k hk => hk.elim .inl (fun h1 => .inr (hO.own k h1.symm).1), hg⟩

theorem step_grow {P : Program} {ops : Array Oper} {o : Oper} {a : Act} {K : Act → World → Prop} {Q : Exit → Act → World → Prop} {E : Prop} {t : TypeId} {z : Value} {bytes : Nat} {A A2 : Option Addr} {n cap m c : Nat} (hgd : o.guard = none) (sv xv : Operand)
    (ho : o.op = .call { callee := .builtin .append, args := #[sv, xv], argTypes := #[t, t] }) (F : AppF P t e z d.sz bytes) (hs : a.eval sv = .slice A n cap) (hx : a.eval xv = .slice A2 m c) (h : Sl d S w A n cap xs) (hy : Sl d S2 w A2 m c ys)
    (hm : 0 < m) (hcap : cap < n + m) (hnone : A = none → cap = 0) (hl : (n + m) * bytes ≤ 140737488355328)
    (hK : ∀ A' c' w', Sl d (fun k => (S k ∨ S2 k) ∨ w.heap.size ≤ k) w' A' (n + m) c' (xs ++ ys) → w.grownBy w' none → K (a.put o.dst (.slice A' (n + m) c')) w') :
    if Region.wanted o (yielded ops a.tmps) = true then Oper.wp P o a w K Q else E := by
  have hw : Region.wanted o (yielded ops a.tmps) = true := by simp [Region.wanted, hgd]
  rw [if_pos hw]
  obtain ⟨A', c', w', hr, h2, h3⟩ := Sl.grow_run (ty := o.type) F h hy hm hcap hnone hl
  unfold Oper.wp execOp
  simp only [ho, resolve, invoke, builtin, Sem.run_bind, Sem.run_pure, Result.andThen_ok, List.map_toArray, List.map_cons, List.map_nil, hs, hx, hr]
  exact hK A' c' w' h2 h3
end
end Go.Proofs.Ytlgdiloddphgnaa
