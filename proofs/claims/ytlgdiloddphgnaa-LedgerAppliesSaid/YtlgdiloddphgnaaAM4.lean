/- The value machine: operations without calls, one by one. -/
import Derived.Test.YtlgdiloddphgnaaAM3
set_option linter.unusedSimpArgs false
namespace Go.Proofs.Ytlgdiloddphgnaa
open Go.RowKit
namespace AM
variable {P : Program} {E : Env} {s : St} {w w' : World}

theorem pureOf_run {m : Sem Value} {v : Value} (h : pureOf P m = some v) (w : World) : m.run P w = .ok v w := by
  induction m generalizing v with
  | pure a =>
    simp only [pureOf, Option.some.injEq] at h
    subst h
    rfl
  | program k ih =>
    simp only [pureOf] at h
    exact ih P h
  | _ => simp [pureOf] at h

/-- Cells of a block that read as a list. -/
def Range (E : Env) (s : St) (w : World) (b base : Nat) (xs : List AV) : Prop := ∀ (j : Nat) (x : AV), xs[j]? = some x → ∃ u, w.cell? ⟨b, base + j, none⟩ = some u ∧ u.oneCell' = true ∧ RelV E s w x u
theorem Range.drop {b base : Nat} {xs : List AV} (h : Range E s w b base xs) (k : Nat) : Range E s w b (base + k) (xs.drop k) := fun j x hj => by
  rw [List.getElem?_drop] at hj
  rw [Nat.add_assoc]
  exact h (k + j) x hj
theorem Range.take {b base : Nat} {xs : List AV} (h : Range E s w b base xs) (k : Nat) : Range E s w b base (xs.take k) := fun j x hj => by
  rw [List.getElem?_take] at hj
  split at hj
  · exact h j x hj
  · cases hj
theorem Rel.range (h : Rel P E s w) {k : Nat} {t : TypeId} {cs : List AV} (hk : s.get k = some (.cells t cs)) : Range E s w (E.φ k) 0 cs := by
  obtain ⟨arr, a1, a2, a3, a4, _⟩ := h.obj k t cs hk
  intro j x hj
  have hlt : j < arr.size := by have := (List.getElem?_eq_some_iff.1 hj).1; omega
  refine ⟨arr.getD j undef, ?_, ?_, a3 j x hj⟩
  · simp only [World.cell?, a1, Nat.zero_add]
    rw [getD_lt hlt]
    simp [hlt]
  · rw [getD_lt hlt]
    exact a4 _ (Array.getElem_mem hlt)
theorem lies_range {A : Option Addr} {xs : List AV} {us : Nat → Value} (h : Lies E w A xs.length us) (hx : ∀ j x, xs[j]? = some x → RelV E s w x (us j)) (h0 : 0 < xs.length) : ∃ b off, A = some ⟨b, off, none⟩ ∧ off + xs.length ≤ E.lim b ∧ Range E s w b off xs := by
  rcases h with h | ⟨b, off, hA, hl, hc⟩
  · omega
  · exact ⟨b, off, hA, hl, fun j x hj => ⟨us j, (hc j (List.getElem?_eq_some_iff.1 hj).1).1, (hc j (List.getElem?_eq_some_iff.1 hj).1).2, hx j x hj⟩⟩
theorem range_lies {b off : Nat} {xs : List AV} (h : Range E s w b off xs) (hl : off + xs.length ≤ E.lim b) : ∃ us : Nat → Value, Lies E w (some ⟨b, off, none⟩) xs.length us ∧ ∀ j x, xs[j]? = some x → RelV E s w x (us j) := by
  refine ⟨fun j => (w.cell? ⟨b, off + j, none⟩).getD undef, .inr ⟨b, off, rfl, hl, fun j hj => ?_⟩, fun j x hj => ?_⟩
  · obtain ⟨u, h1, h2, _⟩ := h j _ (List.getElem?_eq_getElem hj)
    simp only [h1, Option.getD_some]
    exact ⟨trivial, h2⟩
  · obtain ⟨u, h1, _, h3⟩ := h j x hj
    simp only [h1, Option.getD_some]
    exact h3
theorem range_values {b off : Nat} {xs : List AV} (h : Range E s w b off xs) : ∃ vs : List Value, vs.length = xs.length ∧ (∀ j v, vs[j]? = some v → w.cell? ⟨b, off + j, none⟩ = some v ∧ v.oneCell' = true) ∧ ∀ j x, xs[j]? = some x → RelV E s w x (vs.getD j undef) := by
  refine ⟨(List.range xs.length).map fun j => (w.cell? ⟨b, off + j, none⟩).getD undef, by simp, fun j v hj => ?_, fun j x hj => ?_⟩
  · have hlt : j < xs.length := by have := (List.getElem?_eq_some_iff.1 hj).1; simpa using this
    obtain ⟨u, h1, h2, _⟩ := h j _ (List.getElem?_eq_getElem hlt)
    simp [hlt, h1] at hj
    subst hj
    exact ⟨h1, h2⟩
  · have hlt := (List.getElem?_eq_some_iff.1 hj).1
    obtain ⟨u, h1, _, h3⟩ := h j x hj
    simp [List.getD, hlt, h1]
    exact h3

theorem isAgg_run {t : TypeId} {b : Bool} (h : isAggT P t = some b) (w : World) : (isAgg t).run P w = .ok b w := by
  unfold isAggT at h
  split at h
  · rename_i fs hu
    cases h
    simp [isAgg, run_underlying hu]
  · rename_i n e hu
    cases h
    simp [isAgg, run_underlying hu]
  · rename_i d h1 h2 hu
    cases h
    unfold isAgg
    rw [Sem.run_bind, run_underlying hu]
    cases d <;> first | rfl | exact absurd rfl (h1 _) | exact absurd rfl (h2 _ _)
  · cases h
theorem size_run {t : TypeId} {n : Nat} (h : size P t = some n) (w : World) : (sizeOf t).run P w = .ok n w := by
  unfold size at h
  cases hi : P.info? t with
  | none => simp [hi] at h
  | some i =>
    simp [hi] at h
    simp [sizeOf, typeInfo, hi, h]
theorem Addr.add_plain (b o j : Nat) : (⟨b, o, none⟩ : Addr).add j = ⟨b, o + j, none⟩ := by
  unfold Addr.add
  split
  · rename_i h
    rw [h]
    rfl
  · rfl

/-- What is read at a place. -/
theorem part_load {t : TypeId} {cs : List AV} {off : Nat} {x : AV} (h : partOf P t cs off = some x) {b base : Nat} (hr : Range E s w b base cs) : ∃ u, (loadVar t ⟨b, base + off, none⟩).run P w = .ok u w ∧ RelV E s w x u := by
  unfold partOf at h
  split at h
  · rename_i n ha hs
    split at h
    · rename_i hle
      cases h
      obtain ⟨vs, v1, v2, v3⟩ := range_values ((hr.drop off).take n)
      have hln : vs.length = n := by rw [v1]; simp; omega
      have hl : (loadCells ⟨b, base + off, none⟩ n).run P w = .ok vs.toArray w := by
        rw [← hln]
        exact run_loadCells_list (P := P) w _ vs (fun j v hj => by rw [Addr.add_plain]; exact (v2 j v hj).1)
      refine ⟨.agg vs.toArray, by simp [loadVar, isAgg_run ha, size_run hs, hl], .agg _ _ (by simpa using v1) (fun j x hj => ?_) (fun u hu => ?_)⟩
      · have := v3 j x hj
        have hlt : j < vs.length := by rw [v1]; exact (List.getElem?_eq_some_iff.1 hj).1
        simpa [Array.getD, List.getD, hlt] using this
      · obtain ⟨j, hj, rfl⟩ := List.getElem_of_mem (by simpa using hu : u ∈ vs)
        exact (v2 j _ (List.getElem?_eq_getElem hj)).2
    · cases h
  · rename_i ha
    obtain ⟨u, h1, _, h3⟩ := hr off x h
    exact ⟨u, by simp [loadVar, isAgg_run ha, load, Sem.run, h1], h3⟩
  · cases h
theorem aload_run (hR : Rel P E s w) {t : TypeId} {p x : AV} {v : Value} (h : aload P s t p = some x) (hp : RelV E s w p v) : ∃ u, (Instr.loadAt t v).run P w = .ok u w ∧ RelV E s w x u := by
  unfold aload at h
  split at h
  · rename_i o off
    split at h
    · rename_i e cs hk
      cases hp with
      | ptr _ _ t' cs' h' =>
        obtain ⟨u, h1, h2⟩ := part_load h (hR.range hk)
        refine ⟨u, ?_, h2⟩
        simpa [Instr.loadAt, Instr.sureAddr] using h1
    · cases h
  · rename_i xs
    cases hp with
    | view b off _ us hl hx =>
      rcases Nat.eq_zero_or_pos xs.length with h0 | h0
      · have hr : Range E s w b off xs := fun j y hj => by have := (List.getElem?_eq_some_iff.1 hj).1; omega
        obtain ⟨u, h1, h2⟩ := part_load h hr
        exact ⟨u, by simpa [Instr.loadAt, Instr.sureAddr] using h1, h2⟩
      · obtain ⟨b', off', hA, _, hr⟩ := lies_range hl hx h0
        cases hA
        obtain ⟨u, h1, h2⟩ := part_load h hr
        exact ⟨u, by simpa [Instr.loadAt, Instr.sureAddr] using h1, h2⟩
  · cases h

/-- The cells of a value. -/
def RelC (E : Env) (s : St) (w : World) (xs : List AV) (us : Array Value) : Prop := us.size = xs.length ∧ (∀ (j : Nat) (x : AV), xs[j]? = some x → RelV E s w x (us.getD j undef)) ∧ ∀ u ∈ us, u.oneCell' = true
theorem relC_one {x : AV} {u : Value} (h : RelV E s w x u) (ho : u.oneCell' = true) : RelC E s w [x] #[u] := by
  refine ⟨rfl, fun j y hj => ?_, fun v hv => ?_⟩
  · cases j with
    | zero =>
      have e : x = y := by simpa using hj
      subst e
      simpa using h
    | succ j => simp at hj
  · rw [Array.mem_singleton.1 hv]
    exact ho
theorem cells_rel {x : AV} {xs : List AV} {u : Value} (h : cellsOf x = some xs) (hx : RelV E s w x u) : RelC E s w xs u.cells := by
  cases hx <;> simp only [cellsOf, Option.some.injEq, reduceCtorEq] at h
  case agg ys us hl hx ho =>
    subst h
    exact ⟨hl, hx, ho⟩
  all_goals
    subst h
    refine relC_one ?_ rfl
    constructor <;> assumption
theorem astore_run (hR : Rel P E s w) {t : TypeId} {p x : AV} {v u : Value} {s' : St} (h : astore P s t p x = some s') (hp : RelV E s w p v) (hx : RelV E s w x u) :
    ∃ w', (Instr.storeAt t v u).run P w = .ok () w' ∧ Le E s w E s' w' ∧ Rel P E s' w' := by
  unfold astore at h
  split at h
  · rename_i o off xs n hc hs
    split at h
    · rename_i e cs hk
      split at h
      · rename_i hle
        cases h
        obtain ⟨c1, c2, c3⟩ := cells_rel hc hx
        cases hp with
        | ptr _ _ t' cs' h' =>
          have hL := set_obj hR hk off xs u.cells.toList (by simpa using c1) hle.2 (fun j y hj => by
            have hlt : j < u.cells.size := by rw [c1]; exact (List.getElem?_eq_some_iff.1 hj).1
            exact ⟨u.cells.getD j undef, by rw [Array.getElem?_toList, getD_get hlt], c2 j y hj⟩) (fun y hy => c3 y (by simpa using hy))
          obtain ⟨arr, a1, a2, _⟩ := hR.obj o e cs hk
          have hst := run_storeCells_cells (P := P) (E.φ o) off u.cells.toList 0 w (fun j hj => by
            simp only [Array.length_toList] at hj
            simp [World.cell?, a1]
            omega) (fun j hj => by simp [World.frozen?, a1]) (fun y hy => c3 y (by simpa using hy))
          refine ⟨_, ?_, hL⟩
          have hsz : u.cells.size = n := by omega
          simp only [Nat.add_zero] at hst
          simp [Instr.storeAt, Instr.sureAddr, storeVar, size_run hs, hsz, hst]
      · cases h
    · cases h
  · cases h

theorem zero_run {t : TypeId} {z : List AV} (h : zeroCells P t = some z) (w : World) : ∃ v, (zeroValue t).run P w = .ok v w ∧ RelC E s w z v.cells ∧ (P.info? t).bind (·.zero) = some v := by
  unfold zeroCells at h
  split at h
  · rename_i i hi
    cases hz : i.zero with
    | none => simp [hz] at h
    | some v =>
      simp only [hz, Option.bind_some] at h
      split at h
      · rename_i ho
        cases h
        refine ⟨v, by simp [zeroValue, typeInfo, hi, hz], ⟨by simp, fun j x hj => ?_, fun u hu => (Array.all_eq_true_iff_forall_mem.1 ho) u hu⟩, by simp [hi, hz]⟩
        rw [List.getElem?_map] at hj
        cases hc : v.cells.toList[j]? with
        | none => simp [hc] at hj
        | some c =>
          have e : ofConst1 c = x := by simpa [hc] using hj
          subst e
          have hlt : j < v.cells.size := by have := (List.getElem?_eq_some_iff.1 hc).1; simpa using this
          have : v.cells.getD j undef = c := by
            rw [getD_lt hlt]
            have := hc
            simp [hlt] at this
            exact this
          rw [this]
          exact relV_const1 E s w c
      · cases h
  · cases h
theorem newVar_run (t : TypeId) (v : Value) (w : World) : (newVar t v).run P w = .ok ⟨w.heap.size, 0, none⟩ (w.alloc (.cells v.cells t)) := rfl
/-- A new variable. -/
theorem box_rel (hR : Rel P E s w) {t : TypeId} {z : List AV} {v : Value} (hz : RelC E s w z v.cells) :
    ∃ E', RelV E' (s.push (.cells t z)) (w.alloc (.cells v.cells t)) (.ptr s.next 0) (.pointer (some ⟨w.heap.size, 0, none⟩)) ∧ Le E s w E' (s.push (.cells t z)) (w.alloc (.cells v.cells t)) ∧ Rel P E' (s.push (.cells t z)) (w.alloc (.cells v.cells t)) := by
  obtain ⟨h1, h2⟩ := new_cells hR t z v.cells (Alloc.alloc w _) hz.1 hz.2.1 hz.2.2
  refine ⟨_, ?_, h1, h2⟩
  have e : (E.ins s.next w.heap.size 0 0).φ s.next = w.heap.size := by simp [Env.ins]
  have := RelV.ptr (E := E.ins s.next w.heap.size 0 0) (s := s.push (.cells t z)) (w := w.alloc (.cells v.cells t)) s.next 0 t z St.get_push_new
  rwa [e] at this

/-- Cells laid into others. -/
theorem foldl_zip (off : Nat) : ∀ (vs : List Value) (n : Nat) (cs : Array Value), off + n + vs.length ≤ cs.size →
    ((vs.zipIdx n).foldl (fun (cs : Array Value) (p : Value × Nat) => cs.setIfInBounds (off + p.2) p.1) cs).size = cs.size ∧
    ∀ j : Nat, ((vs.zipIdx n).foldl (fun (cs : Array Value) (p : Value × Nat) => cs.setIfInBounds (off + p.2) p.1) cs).getD j undef = if off + n ≤ j ∧ j < off + n + vs.length then vs.getD (j - (off + n)) undef else cs.getD j undef
  | [], n, cs, _ => ⟨rfl, fun j => by rw [if_neg (by simp)]; rfl⟩
  | v :: vs, n, cs, h => by
    simp only [List.length_cons] at h
    obtain ⟨h1, h2⟩ := foldl_zip off vs (n + 1) (cs.setIfInBounds (off + n) v) (by simp; omega)
    simp only [List.zipIdx_cons, List.foldl_cons]
    refine ⟨by rw [h1]; simp, fun j => ?_⟩
    rw [h2]
    simp only [List.length_cons]
    by_cases c1 : off + (n + 1) ≤ j ∧ j < off + (n + 1) + vs.length
    · rw [if_pos c1, if_pos (by omega)]
      obtain ⟨k, rfl⟩ : ∃ k, j = off + (n + 1) + k := ⟨j - (off + (n + 1)), by omega⟩
      rw [show off + (n + 1) + k - (off + (n + 1)) = k by omega, show off + (n + 1) + k - (off + n) = k + 1 by omega]
      rfl
    · rw [if_neg c1]
      by_cases c2 : j = off + n
      · rw [if_pos (by omega)]
        subst c2
        have : off + n < cs.size := by omega
        simp [Array.getD, this]
      · rw [if_neg (by omega)]
        by_cases hj : j < cs.size
        · have : ¬ off + n = j := fun e => c2 e.symm
          simp [Array.getD, hj, this]
        · simp [Array.getD, hj]
theorem relC_put {cs xs : List AV} {us vs : Array Value} {off : Nat} (h : RelC E s w cs us) (k : RelC E s w xs vs) (hle : off + xs.length ≤ cs.length) :
    RelC E s w (putCells cs off xs) (vs.zipIdx.foldl (fun cs (c, j) => cs.setIfInBounds (off + j) c) us) := by
  obtain ⟨h1, h2, h3⟩ := h
  obtain ⟨k1, k2, k3⟩ := k
  have e : vs.zipIdx.foldl (fun cs (c, j) => cs.setIfInBounds (off + j) c) us = (vs.toList.zipIdx 0).foldl (fun (cs : Array Value) (p : Value × Nat) => cs.setIfInBounds (off + p.2) p.1) us := by
    rw [← Array.foldl_toList]
    simp [Array.toList_zipIdx]
  obtain ⟨f1, f2⟩ := foldl_zip off vs.toList 0 us (by simp; omega)
  rw [e]
  have hlen : (putCells cs off xs).length = cs.length := by simp [putCells]; omega
  have key : ∀ j, j < us.size → ((vs.toList.zipIdx 0).foldl (fun (cs : Array Value) (p : Value × Nat) => cs.setIfInBounds (off + p.2) p.1) us).getD j undef = if off ≤ j ∧ j < off + vs.size then vs.getD (j - off) undef else us.getD j undef := fun j hj => by
    rw [f2 j]
    simp [Array.getD, List.getD]
    split <;> rename_i c <;> first | rfl | skip
    split <;> rename_i c3
    · simp [c3]
    · simp [c3]
  refine ⟨by rw [f1, hlen, h1], fun j x hj => ?_, fun u hu => ?_⟩
  · have hjl : j < us.size := by have := (List.getElem?_eq_some_iff.1 hj).1; omega
    rw [key j hjl]
    have t2 : (cs.take off).length = off := by simp; omega
    rw [putCells, List.append_assoc, List.getElem?_append, t2] at hj
    by_cases c : j < off
    · rw [if_pos c, List.getElem?_take, if_pos c] at hj
      rw [if_neg (by omega)]
      exact h2 j x hj
    · rw [if_neg c, List.getElem?_append] at hj
      by_cases c2 : j - off < xs.length
      · rw [if_pos c2] at hj
        rw [if_pos (by omega)]
        exact k2 _ x hj
      · rw [if_neg c2, List.getElem?_drop, show off + xs.length + (j - off - xs.length) = j by omega] at hj
        rw [if_neg (by omega)]
        exact h2 j x hj
  · obtain ⟨j, hj, rfl⟩ := Array.getElem_of_mem hu
    have hjl : j < us.size := by rw [← f1]; exact hj
    have := key j hjl
    rw [getD_lt hj] at this
    rw [this]
    by_cases c : off ≤ j ∧ j < off + vs.size
    · rw [if_pos c]
      have : j - off < vs.size := by omega
      rw [getD_lt this]
      exact k3 _ (Array.getElem_mem this)
    · rw [if_neg c, getD_lt hjl]
      exact h3 _ (Array.getElem_mem hjl)
theorem fill_rel {place : Nat → Option (Nat × Nat)} : ∀ (parts : List (Nat × AV)) (ps : List (Nat × Value)) (cs : List AV) (us : Array Value) (zs : List AV), RelC E s w cs us → ps.length = parts.length → (∀ (j : Nat) (p : Nat × AV), parts[j]? = some p → ∃ v, ps[j]? = some (p.1, v) ∧ RelV E s w p.2 v) → fillIn place cs parts = some zs → ∃ vs, Instr.fill place us ps = some vs ∧ RelC E s w zs vs
  | [], [], cs, us, zs, h, _, _, hf => by
    simp only [fillIn, Option.some.injEq] at hf
    subst hf
    exact ⟨us, rfl, h⟩
  | [], _ :: _, _, _, _, _, hl, _, _ => by simp at hl
  | (i, x) :: parts, [], _, _, _, _, hl, _, _ => by simp at hl
  | (i, x) :: parts, (i', v) :: ps, cs, us, zs, h, hl, hp, hf => by
    obtain ⟨v', e1, hx⟩ := hp 0 (i, x) rfl
    simp only [List.getElem?_cons_zero, Option.some.injEq, Prod.mk.injEq] at e1
    obtain ⟨rfl, rfl⟩ := e1
    simp only [fillIn] at hf
    split at hf
    · rename_i off n xs hpl hc
      split at hf
      · rename_i hle
        have hv := cells_rel hc hx
        have h' := relC_put h hv hle.2
        obtain ⟨vs, f1, f2⟩ := fill_rel parts ps _ _ zs h' (by simpa using hl) (fun j p hj => hp (j + 1) p hj) hf
        refine ⟨vs, ?_, f2⟩
        simp only [Instr.fill, hpl]
        rw [if_neg (by simp only [bne_iff_ne, ne_eq, gt_iff_lt, Bool.or_eq_true, decide_eq_true_eq]; have := h.1; have := hv.1; omega)]
        exact f1
      · cases hf
    · cases hf
end AM
end Go.Proofs.Ytlgdiloddphgnaa
