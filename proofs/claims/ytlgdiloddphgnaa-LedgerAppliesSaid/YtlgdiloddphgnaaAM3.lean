/- The value machine: what the model does to memory, seen from the relation. -/
import Derived.Test.YtlgdiloddphgnaaAM2
namespace Go.Proofs.Ytlgdiloddphgnaa
open Go.RowKit
namespace AM
variable {P : Program} {E : Env} {s : St} {w w' : World}

theorem get_lt_cases {s : St} {k : Nat} (h : k < s.next) : (∃ t cs, s.get k = some (.cells t cs)) ∨ (∃ t n, s.get k = some (.tip t n)) := by
  have : s.get k = some (s.objs[k]'h) := List.getElem?_eq_getElem h
  cases he : s.objs[k]'h with
  | cells t cs => exact .inl ⟨t, cs, by rw [this, he]⟩
  | tip t n => exact .inr ⟨t, n, by rw [this, he]⟩
theorem Rel.lt (h : Rel P E s w) {k : Nat} (hk : k < s.next) : E.φ k < w.heap.size := by
  rcases get_lt_cases hk with ⟨t, cs, hc⟩ | ⟨t, n, hc⟩
  · obtain ⟨arr, ha, _⟩ := h.obj k t cs hc
    exact (Array.getElem?_eq_some_iff.1 ha).1
  · obtain ⟨arr, i, _, _, ha, _⟩ := h.tip k t n hc
    exact (Array.getElem?_eq_some_iff.1 ha).1
theorem cell_lt {b i : Nat} (h : Rel P E s w) (hi : i < E.lim b) : b < w.heap.size := by
  rcases Nat.lt_or_ge b w.heap.size with h1 | h1
  · exact h1
  · rw [h.lim b h1] at hi
    omega

/-- One new block. -/
structure Alloc (w : World) (o : Obj) (w' : World) : Prop where
  heap : w'.heap = w.heap.push o
  os : w'.os = w.os
  tape : w'.tape = w.tape
  output : w'.output = w.output
theorem Alloc.alloc (w : World) (o : Obj) : Alloc w o (w.alloc o) := ⟨rfl, rfl, rfl, rfl⟩
theorem Alloc.drew (w : World) (o : Obj) : Alloc w o (w.drew.alloc o) := ⟨rfl, rfl, rfl, rfl⟩
theorem Alloc.old {o : Obj} (h : Alloc w o w') {b : Nat} (hb : b < w.heap.size) : w'.heap[b]? = w.heap[b]? := by
  rw [h.heap, Array.getElem?_push_lt hb, Array.getElem?_eq_getElem hb]
theorem Alloc.new {o : Obj} (h : Alloc w o w') : w'.heap[w.heap.size]? = some o := by rw [h.heap]; simp
theorem Alloc.size {o : Obj} (h : Alloc w o w') : w'.heap.size = w.heap.size + 1 := by rw [h.heap]; simp
theorem Alloc.cell {o : Obj} (h : Alloc w o w') {b i : Nat} (hb : b < w.heap.size) : w'.cell? ⟨b, i, none⟩ = w.cell? ⟨b, i, none⟩ :=
  World.cell?_of_block (by exact h.old hb)

def Env.ins (E : Env) (k b c m : Nat) : Env := ⟨fun j => if j = k then b else E.φ j, fun j => if j = k then c else E.cap j, fun j => if j = b then m else E.lim j⟩

/-- A new object. -/
theorem new_cells (h : Rel P E s w) (t : TypeId) (cs : List AV) (arr : Array Value) (hw : Alloc w (.cells arr t (0, 0)) w') (hl : arr.size = cs.length) (hx : ∀ j x, cs[j]? = some x → RelV E s w x (arr.getD j undef)) (ho : ∀ u ∈ arr, u.oneCell' = true) :
    Le E s w (E.ins s.next w.heap.size 0 0) (s.push (.cells t cs)) w' ∧ Rel P (E.ins s.next w.heap.size 0 0) (s.push (.cells t cs)) w' := by
  have old : ∀ k, k < s.next → (E.ins s.next w.heap.size 0 0).φ k = E.φ k ∧ (E.ins s.next w.heap.size 0 0).cap k = E.cap k := fun k hk => by
    simp only [Env.ins]
    rw [if_neg (by omega), if_neg (by omega)]
    exact ⟨rfl, rfl⟩
  have lim : ∀ b, (E.ins s.next w.heap.size 0 0).lim b = E.lim b := fun b => by
    simp only [Env.ins]
    split
    · rename_i e
      rw [e, h.lim _ (Nat.le_refl _)]
    · rfl
  have L : Le E s w (E.ins s.next w.heap.size 0 0) (s.push (.cells t cs)) w' := by
    refine ⟨fun k t' cs' hk => ⟨(old k (St.get_lt hk)).1, cs', St.get_push hk⟩, fun k t' n hk => ⟨n, St.get_push hk, Nat.le_refl _, fun _ => old k (St.get_lt hk)⟩, fun b => by rw [lim]; exact Nat.le_refl _, fun b i hi => hw.cell (cell_lt h hi), by rw [St.next_push]; omega, fun b hb _ => hw.old hb, fun k hk => ?_, by rw [hw.size]; omega, hw.os, hw.tape, hw.output⟩
    rw [St.next_push] at hk
    rcases Nat.lt_or_ge k s.next with h1 | h1
    · exact .inl ⟨k, h1, (old k h1).1.symm⟩
    · have : k = s.next := by omega
      subst this
      exact .inr (by simp [Env.ins])
  refine ⟨L, ⟨fun k t' cs' hk => ?_, fun k t' n hk => ?_, fun k k' hk hk' e => ?_, fun b hb => ?_⟩⟩
  · rcases St.push_inv hk with h1 | ⟨rfl, e⟩
    · obtain ⟨arr', a1, a2, a3, a4, a5⟩ := h.obj k t' cs' h1
      rw [(old k (St.get_lt h1)).1, lim]
      exact ⟨arr', by rw [hw.old (h.lt (St.get_lt h1))]; exact a1, a2, fun j x hj => (a3 j x hj).mono L, a4, a5⟩
    · cases e
      have e0 : (E.ins s.next w.heap.size 0 0).φ s.next = w.heap.size := by simp [Env.ins]
      rw [e0, lim]
      exact ⟨arr, hw.new, hl, fun j x hj => (hx j x hj).mono L, ho, h.lim _ (Nat.le_refl _)⟩
  · rcases St.push_inv hk with h1 | ⟨rfl, e⟩
    · obtain ⟨arr', i, a1, a2, a3, a4, a5, a6, a7⟩ := h.tip k t' n h1
      rw [(old k (St.get_lt h1)).1, (old k (St.get_lt h1)).2, lim]
      exact ⟨arr', i, a1, a2, by rw [hw.old (h.lt (St.get_lt h1))]; exact a3, a4, a5, a6, a7⟩
    · cases e
  · rw [St.next_push] at hk hk'
    rcases Nat.lt_or_ge k s.next with h1 | h1
    · rcases Nat.lt_or_ge k' s.next with h2 | h2
      · rw [(old k h1).1, (old k' h2).1] at e
        exact h.inj k k' h1 h2 e
      · have : k' = s.next := by omega
        subst this
        have := h.lt h1
        rw [(old k h1).1] at e
        simp [Env.ins] at e
        omega
    · have : k = s.next := by omega
      subst this
      rcases Nat.lt_or_ge k' s.next with h2 | h2
      · have := h.lt h2
        rw [(old k' h2).1] at e
        simp [Env.ins] at e
        omega
      · omega
  · rw [lim]
    exact h.lim b (by rw [hw.size] at hb; omega)

def Env.row (E : Env) (b m : Nat) : Env := ⟨E.φ, E.cap, fun j => if j = b then m else E.lim j⟩
/-- A new row that won't grow. -/
theorem new_row (h : Rel P E s w) (o : Obj) (m : Nat) (hw : Alloc w o w') : Le E s w (E.row w.heap.size m) s w' ∧ Rel P (E.row w.heap.size m) s w' := by
  have lim : ∀ b, b ≠ w.heap.size → (E.row w.heap.size m).lim b = E.lim b := fun b hb => by
    simp only [Env.row]
    rw [if_neg hb]
  have L : Le E s w (E.row w.heap.size m) s w' := by
    refine ⟨fun k t' cs' hk => ⟨rfl, cs', hk⟩, fun k t' n hk => ⟨n, hk, Nat.le_refl _, fun _ => ⟨rfl, rfl⟩⟩, fun b => ?_, fun b i hi => hw.cell (cell_lt h hi), Nat.le_refl _, fun b hb _ => hw.old hb, fun k hk => .inl ⟨k, hk, rfl⟩, by rw [hw.size]; omega, hw.os, hw.tape, hw.output⟩
    by_cases e : b = w.heap.size
    · rw [e, h.lim _ (Nat.le_refl _)]
      omega
    · rw [lim b e]
      exact Nat.le_refl _
  refine ⟨L, ⟨fun k t' cs' hk => ?_, fun k t' n hk => ?_, h.inj, fun b hb => ?_⟩⟩
  · obtain ⟨arr', a1, a2, a3, a4, a5⟩ := h.obj k t' cs' hk
    have hlt := h.lt (St.get_lt hk)
    refine ⟨arr', by rw [show (E.row w.heap.size m).φ k = E.φ k from rfl, hw.old hlt]; exact a1, a2, fun j x hj => (a3 j x hj).mono L, a4, ?_⟩
    rw [lim _ (by show E.φ k ≠ _; omega)]
    exact a5
  · obtain ⟨arr', i, a1, a2, a3, a4, a5, a6, a7⟩ := h.tip k t' n hk
    have hlt := h.lt (St.get_lt hk)
    refine ⟨arr', i, a1, a2, by rw [show (E.row w.heap.size m).φ k = E.φ k from rfl, hw.old hlt]; exact a3, a4, a5, a6, ?_⟩
    rw [lim _ (by show E.φ k ≠ _; omega)]
    exact a7
  · rw [hw.size] at hb
    rw [lim b (by omega)]
    exact h.lim b (by omega)

/-- A new row that may grow. -/
theorem new_tip (h : Rel P E s w) (t : TypeId) (i : TypeInfo) (hi : P.info? t = some i) (n c : Nat) (arr : Array Value) (hw : Alloc w (.cells arr t (0, 0)) w') (hn : 0 < n) (ha : arr.size = c * i.size) (hc : n ≤ c) (hm : c ≤ maxLen) :
    Le E s w (E.ins s.next w.heap.size c (n * i.size)) (s.push (.tip t n)) w' ∧ Rel P (E.ins s.next w.heap.size c (n * i.size)) (s.push (.tip t n)) w' := by
  have old : ∀ k, k < s.next → (E.ins s.next w.heap.size c (n * i.size)).φ k = E.φ k ∧ (E.ins s.next w.heap.size c (n * i.size)).cap k = E.cap k := fun k hk => by
    simp only [Env.ins]
    rw [if_neg (by omega), if_neg (by omega)]
    exact ⟨rfl, rfl⟩
  have lim : ∀ b, b ≠ w.heap.size → (E.ins s.next w.heap.size c (n * i.size)).lim b = E.lim b := fun b hb => by
    simp only [Env.ins]
    rw [if_neg hb]
  have L : Le E s w (E.ins s.next w.heap.size c (n * i.size)) (s.push (.tip t n)) w' := by
    refine ⟨fun k t' cs' hk => ⟨(old k (St.get_lt hk)).1, cs', St.get_push hk⟩, fun k t' n hk => ⟨n, St.get_push hk, Nat.le_refl _, fun _ => old k (St.get_lt hk)⟩, fun b => ?_, fun b i hi => hw.cell (cell_lt h hi), by rw [St.next_push]; omega, fun b hb _ => hw.old hb, fun k hk => ?_, by rw [hw.size]; omega, hw.os, hw.tape, hw.output⟩
    · by_cases e : b = w.heap.size
      · rw [e, h.lim _ (Nat.le_refl _)]
        omega
      · rw [lim b e]
        exact Nat.le_refl _
    · rw [St.next_push] at hk
      rcases Nat.lt_or_ge k s.next with h1 | h1
      · exact .inl ⟨k, h1, (old k h1).1.symm⟩
      · have : k = s.next := by omega
        subst this
        exact .inr (by simp [Env.ins])
  refine ⟨L, ⟨fun k t' cs' hk => ?_, fun k t' n' hk => ?_, fun k k' hk hk' e => ?_, fun b hb => ?_⟩⟩
  · rcases St.push_inv hk with h1 | ⟨rfl, e⟩
    · obtain ⟨arr', a1, a2, a3, a4, a5⟩ := h.obj k t' cs' h1
      have hlt := h.lt (St.get_lt h1)
      rw [(old k (St.get_lt h1)).1, lim _ (by omega)]
      exact ⟨arr', by rw [hw.old hlt]; exact a1, a2, fun j x hj => (a3 j x hj).mono L, a4, a5⟩
    · cases e
  · rcases St.push_inv hk with h1 | ⟨rfl, e⟩
    · obtain ⟨arr', i', a1, a2, a3, a4, a5, a6, a7⟩ := h.tip k t' n' h1
      have hlt := h.lt (St.get_lt h1)
      rw [(old k (St.get_lt h1)).1, (old k (St.get_lt h1)).2, lim _ (by omega)]
      exact ⟨arr', i', a1, a2, by rw [hw.old hlt]; exact a3, a4, a5, a6, a7⟩
    · cases e
      have e0 : (E.ins s.next w.heap.size c (n * i.size)).φ s.next = w.heap.size := by simp [Env.ins]
      have e1 : (E.ins s.next w.heap.size c (n * i.size)).cap s.next = c := by simp [Env.ins]
      have e2 : (E.ins s.next w.heap.size c (n * i.size)).lim w.heap.size = n * i.size := by simp [Env.ins]
      rw [e0, e1, e2]
      exact ⟨arr, i, hi, hn, hw.new, ha, hc, hm, rfl⟩
  · rw [St.next_push] at hk hk'
    rcases Nat.lt_or_ge k s.next with h1 | h1
    · rcases Nat.lt_or_ge k' s.next with h2 | h2
      · rw [(old k h1).1, (old k' h2).1] at e
        exact h.inj k k' h1 h2 e
      · have : k' = s.next := by omega
        subst this
        have := h.lt h1
        rw [(old k h1).1] at e
        simp [Env.ins] at e
        omega
    · have : k = s.next := by omega
      subst this
      rcases Nat.lt_or_ge k' s.next with h2 | h2
      · have := h.lt h2
        rw [(old k' h2).1] at e
        simp [Env.ins] at e
        omega
      · omega
  · rw [hw.size] at hb
    rw [lim b (by omega)]
    exact h.lim b (by omega)

/-- A row that has no room is laid anew. -/
theorem move_tip (h : Rel P E s w) {k : Nat} {t : TypeId} {n : Nat} (hk : s.get k = some (.tip t n)) (i : TypeInfo) (hi : P.info? t = some i) (m c : Nat) (arr : Array Value) (hw : Alloc w (.cells arr t (0, 0)) w') (hm : 0 < m) (ha : arr.size = c * i.size) (hc : n + m ≤ c) (hmx : c ≤ maxLen) :
    Le E s w (E.ins k w.heap.size c ((n + m) * i.size)) (s.set k (.tip t (n + m))) w' ∧ Rel P (E.ins k w.heap.size c ((n + m) * i.size)) (s.set k (.tip t (n + m))) w' := by
  have hkl := St.get_lt hk
  have old : ∀ j, j ≠ k → (E.ins k w.heap.size c ((n + m) * i.size)).φ j = E.φ j ∧ (E.ins k w.heap.size c ((n + m) * i.size)).cap j = E.cap j := fun j hj => by
    simp only [Env.ins]
    rw [if_neg hj, if_neg hj]
    exact ⟨rfl, rfl⟩
  have lim : ∀ b, b ≠ w.heap.size → (E.ins k w.heap.size c ((n + m) * i.size)).lim b = E.lim b := fun b hb => by
    simp only [Env.ins]
    rw [if_neg hb]
  have e0 : (E.ins k w.heap.size c ((n + m) * i.size)).φ k = w.heap.size := by simp [Env.ins]
  have e1 : (E.ins k w.heap.size c ((n + m) * i.size)).cap k = c := by simp [Env.ins]
  have e2 : (E.ins k w.heap.size c ((n + m) * i.size)).lim w.heap.size = (n + m) * i.size := by simp [Env.ins]
  have L : Le E s w (E.ins k w.heap.size c ((n + m) * i.size)) (s.set k (.tip t (n + m))) w' := by
    refine ⟨fun k' t' cs' hk' => ?_, fun k' t' n' hk' => ?_, fun b => ?_, fun b j hj => hw.cell (cell_lt h hj), by rw [St.next_set]; exact Nat.le_refl _, fun b hb _ => hw.old hb, fun k' hk' => ?_, by rw [hw.size]; omega, hw.os, hw.tape, hw.output⟩
    · have e : k ≠ k' := fun e => by subst e; rw [hk] at hk'; cases hk'
      exact ⟨(old k' (Ne.symm e)).1, cs', by rw [St.get_set_ne e]; exact hk'⟩
    · by_cases e : k = k'
      · subst e
        rw [hk] at hk'
        cases hk'
        exact ⟨n + m, St.get_set_eq hkl, by omega, fun e' => by omega⟩
      · exact ⟨n', by rw [St.get_set_ne e]; exact hk', Nat.le_refl _, fun _ => old k' (Ne.symm e)⟩
    · by_cases e : b = w.heap.size
      · rw [e, h.lim _ (Nat.le_refl _)]
        omega
      · rw [lim b e]
        exact Nat.le_refl _
    · rw [St.next_set] at hk'
      by_cases e : k' = k
      · rw [e, e0]
        exact .inr (Nat.le_refl _)
      · exact .inl ⟨k', hk', (old k' e).1.symm⟩
  refine ⟨L, ⟨fun k' t' cs' hk' => ?_, fun k' t' n' hk' => ?_, fun a b ha' hb' e => ?_, fun b hb => ?_⟩⟩
  · have e : k ≠ k' := fun e => by subst e; rw [St.get_set_eq hkl] at hk'; cases hk'
    rw [St.get_set_ne e] at hk'
    obtain ⟨arr', a1, a2, a3, a4, a5⟩ := h.obj k' t' cs' hk'
    have hlt := h.lt (St.get_lt hk')
    rw [(old k' (Ne.symm e)).1, lim _ (by omega)]
    exact ⟨arr', by rw [hw.old hlt]; exact a1, a2, fun j x hj => (a3 j x hj).mono L, a4, a5⟩
  · by_cases e : k = k'
    · subst e
      rw [St.get_set_eq hkl] at hk'
      cases hk'
      rw [e0, e1, e2]
      exact ⟨arr, i, hi, by omega, hw.new, ha, hc, hmx, rfl⟩
    · rw [St.get_set_ne e] at hk'
      obtain ⟨arr', i', a1, a2, a3, a4, a5, a6, a7⟩ := h.tip k' t' n' hk'
      have hlt := h.lt (St.get_lt hk')
      rw [(old k' (Ne.symm e)).1, (old k' (Ne.symm e)).2, lim _ (by omega)]
      exact ⟨arr', i', a1, a2, by rw [hw.old hlt]; exact a3, a4, a5, a6, a7⟩
  · rw [St.next_set] at ha' hb'
    by_cases c1 : a = k
    · by_cases c2 : b = k
      · rw [c1, c2]
      · have := h.lt hb'
        rw [c1, e0, (old b c2).1] at e
        omega
    · by_cases c2 : b = k
      · have := h.lt ha'
        rw [c2, e0, (old a c1).1] at e
        omega
      · rw [(old a c1).1, (old b c2).1] at e
        exact h.inj a b ha' hb' e
  · rw [hw.size] at hb
    rw [lim b (by omega)]
    exact h.lim b (by omega)

/-- Cells of a block written. -/
theorem setCells_heap {b : Nat} {t : TypeId} {fr : Nat × Nat} : ∀ (vs : List Value) (o : Nat) (w : World) (arr : Array Value), w.heap[b]? = some (.cells arr t fr) → o + vs.length ≤ arr.size →
    ∃ arr' : Array Value, (w.setCells b o vs).heap[b]? = some (.cells arr' t fr) ∧ arr'.toList = arr.toList.take o ++ vs ++ arr.toList.drop (o + vs.length)
  | [], o, w, arr, h, _ => ⟨arr, h, by simp⟩
  | v :: vs, o, w, arr, h, hl => by
    simp only [List.length_cons] at hl
    have h1 : (w.setCell ⟨b, o, none⟩ v).heap[b]? = some (.cells (arr.setIfInBounds o v) t fr) := by
      simp [World.setCell, Array.getElem?_modify, h]
    obtain ⟨arr', a1, a2⟩ := setCells_heap vs (o + 1) (w.setCell ⟨b, o, none⟩ v) _ h1 (by simp; omega)
    refine ⟨arr', a1, ?_⟩
    rw [a2]
    apply List.ext_getElem?
    intro j
    have e1 : (arr.toList.take o).length = o := by simp; omega
    have e2 : ((arr.toList.set o v).take (o + 1)).length = o + 1 := by simp; omega
    simp only [Array.toList_setIfInBounds, List.append_assoc, List.cons_append, List.length_cons, List.getElem?_append, e1, e2, List.getElem?_take, List.getElem?_set, List.getElem?_drop, List.getElem?_cons]
    rcases Nat.lt_trichotomy j o with hj | hj | hj
    · simp [hj, Nat.lt_succ_of_lt hj, show ¬ o = j by omega]
    · subst hj
      simp
      omega
    · have c1 : ¬ j < o + 1 := by omega
      have c2 : ¬ j < o := by omega
      have c3 : ¬ j - o = 0 := by omega
      simp only [c1, c2, c3, if_false, show j - o - 1 = j - (o + 1) by omega]
      split
      · rfl
      · rw [if_neg (by omega)]
        congr 1
        omega
theorem setCells_same (b : Nat) : ∀ (vs : List Value) (o : Nat) (w : World), (w.setCells b o vs).os = w.os ∧ (w.setCells b o vs).tape = w.tape ∧ (w.setCells b o vs).output = w.output ∧ (w.setCells b o vs).heap.size = w.heap.size ∧ ∀ k, k ≠ b → (w.setCells b o vs).heap[k]? = w.heap[k]?
  | [], o, w => ⟨rfl, rfl, rfl, rfl, fun _ _ => rfl⟩
  | v :: vs, o, w => by
    obtain ⟨h1, h2, h3, h4, h5⟩ := setCells_same b vs (o + 1) (w.setCell ⟨b, o, none⟩ v)
    refine ⟨h1, h2, h3, by rw [World.setCells, h4]; simp [World.setCell], fun k hk => ?_⟩
    rw [World.setCells, h5 k hk]
    exact Below.heap_setCell _ _ _ _ hk

/-- An object is written. -/
theorem set_obj (h : Rel P E s w) {k : Nat} {t : TypeId} {cs : List AV} (hk : s.get k = some (.cells t cs)) (off : Nat) (xs : List AV) (vs : List Value) (hl : vs.length = xs.length) (hle : off + xs.length ≤ cs.length) (hx : ∀ (j : Nat) (x : AV), xs[j]? = some x → ∃ u, vs[j]? = some u ∧ RelV E s w x u) (ho : ∀ u ∈ vs, u.oneCell' = true) :
    Le E s w E (s.set k (.cells t (putCells cs off xs))) (w.setCells (E.φ k) off vs) ∧ Rel P E (s.set k (.cells t (putCells cs off xs))) (w.setCells (E.φ k) off vs) := by
  obtain ⟨arr, a1, a2, a3, a4, a5⟩ := h.obj k t cs hk
  obtain ⟨s1, s2, s3, s4, s5⟩ := setCells_same (E.φ k) vs off w
  obtain ⟨arr', b1, b2⟩ := setCells_heap vs off w arr a1 (by omega)
  have hkl := St.get_lt hk
  have L : Le E s w E (s.set k (.cells t (putCells cs off xs))) (w.setCells (E.φ k) off vs) := by
    refine ⟨fun k' t' cs' hk' => ⟨rfl, ?_⟩, fun k' t' n hk' => ⟨n, ?_, Nat.le_refl _, fun _ => ⟨rfl, rfl⟩⟩, fun _ => Nat.le_refl _, fun b i hi => ?_, by rw [St.next_set]; exact Nat.le_refl _, fun b hb hn => s5 b (fun e => hn k hkl e.symm), fun k' hk' => .inl ⟨k', by rwa [St.next_set] at hk', rfl⟩, by rw [s4]; exact Nat.le_refl _, s1, s2, s3⟩
    · by_cases e : k = k'
      · subst e
        rw [hk] at hk'
        cases hk'
        exact ⟨_, St.get_set_eq hkl⟩
      · exact ⟨cs', by rw [St.get_set_ne e]; exact hk'⟩
    · have e : k ≠ k' := fun e => by subst e; rw [hk] at hk'; cases hk'
      rw [St.get_set_ne e]
      exact hk'
    · have e : b ≠ E.φ k := fun e => by rw [e, a5] at hi; omega
      exact World.cell?_of_block (by exact s5 b e)
  refine ⟨L, ⟨fun k' t' cs' hk' => ?_, fun k' t' n hk' => ?_, fun i j hi hj e => h.inj i j (by rwa [St.next_set] at hi) (by rwa [St.next_set] at hj) e, fun b hb => h.lim b (by rwa [s4] at hb)⟩⟩
  · by_cases e : k = k'
    · subst e
      rw [St.get_set_eq hkl] at hk'
      cases hk'
      have hsz : arr'.size = cs.length := by
        have := congrArg List.length b2
        simp at this
        omega
      have hget : ∀ j : Nat, arr'[j]? = (arr.toList.take off ++ vs ++ arr.toList.drop (off + vs.length))[j]? := fun j => by rw [← b2, Array.getElem?_toList]
      refine ⟨arr', b1, ?_, fun j x hj => ?_, fun u hu => ?_, a5⟩
      · rw [hsz, putCells]
        simp
        omega
      · have hjl : j < (putCells cs off xs).length := (List.getElem?_eq_some_iff.1 hj).1
        have hjs : j < arr'.size := by
          rw [hsz]
          simp [putCells] at hjl
          omega
        have hd : arr'.getD j undef = ((arr.toList.take off ++ vs ++ arr.toList.drop (off + vs.length))[j]?).getD undef := by rw [← hget, getD_get hjs]; rfl
        rw [hd]
        have t1 : (arr.toList.take off).length = off := by simp; omega
        have t2 : (cs.take off).length = off := by simp; omega
        rw [putCells, List.append_assoc, List.getElem?_append, t2] at hj
        rw [List.append_assoc, List.getElem?_append, t1]
        split
        · rename_i hlt
          rw [if_pos hlt, List.getElem?_take, if_pos hlt] at hj
          rw [List.getElem?_take, if_pos hlt]
          have := a3 j x hj
          have hja : j < arr.size := by omega
          rw [getD_lt hja] at this
          simpa [hja] using this.mono L
        · rename_i hlt
          rw [if_neg hlt, List.getElem?_append] at hj
          rw [List.getElem?_append]
          split
          · rename_i hlt2
            rw [if_pos (by omega)] at hj
            obtain ⟨u, hu, hr⟩ := hx _ x hj
            rw [hu]
            exact hr.mono L
          · rename_i hlt2
            rw [if_neg (by omega), List.getElem?_drop] at hj
            rw [List.getElem?_drop]
            have e1 : off + xs.length + (j - off - xs.length) = j := by omega
            have e2 : off + vs.length + (j - off - vs.length) = j := by omega
            rw [e1] at hj
            rw [e2]
            have := a3 j x hj
            have hja : j < arr.size := by have := (List.getElem?_eq_some_iff.1 hj).1; omega
            rw [getD_lt hja] at this
            simpa [hja] using this.mono L
      · have hm : u ∈ arr'.toList := by simpa using hu
        rw [b2] at hm
        simp only [List.mem_append] at hm
        rcases hm with (hm | hm) | hm
        · exact a4 u (by simpa using List.mem_of_mem_take hm)
        · exact ho u hm
        · exact a4 u (by simpa using List.mem_of_mem_drop hm)
    · rw [St.get_set_ne e] at hk'
      obtain ⟨arr2, c1, c2, c3, c4, c5⟩ := h.obj k' t' cs' hk'
      exact ⟨arr2, by rw [s5 _ (fun e' => e (h.inj k k' hkl (St.get_lt hk') e'.symm))]; exact c1, c2, fun j x hj => (c3 j x hj).mono L, c4, c5⟩
  · have e : k ≠ k' := fun e => by subst e; rw [St.get_set_eq hkl] at hk'; cases hk'
    rw [St.get_set_ne e] at hk'
    obtain ⟨arr2, i, c1, c2, c3, c4⟩ := h.tip k' t' n hk'
    exact ⟨arr2, i, c1, c2, by rw [s5 _ (fun e' => e (h.inj k k' hkl (St.get_lt hk') e'.symm))]; exact c3, c4⟩

/-- A row grows in its place. -/
theorem grow_tip (h : Rel P E s w) {k : Nat} {t : TypeId} {n : Nat} (hk : s.get k = some (.tip t n)) (i : TypeInfo) (hi : P.info? t = some i) (m : Nat) (vs : List Value) (hl : vs.length = m * i.size) (hc : n + m ≤ E.cap k) :
    Le E s w (E.row (E.φ k) ((n + m) * i.size)) (s.set k (.tip t (n + m))) (w.setCells (E.φ k) (n * i.size) vs) ∧ Rel P (E.row (E.φ k) ((n + m) * i.size)) (s.set k (.tip t (n + m))) (w.setCells (E.φ k) (n * i.size) vs) := by
  obtain ⟨arr, i', a0, a1, a2, a3, a4, a5, a6⟩ := h.tip k t n hk
  rw [hi] at a0
  cases a0
  obtain ⟨s1, s2, s3, s4, s5⟩ := setCells_same (E.φ k) vs (n * i.size) w
  have hroom : n * i.size + vs.length ≤ arr.size := by
    rw [hl, a3, ← Nat.add_mul]
    exact Nat.mul_le_mul_right _ hc
  obtain ⟨arr', b1, b2⟩ := setCells_heap vs (n * i.size) w arr a2 hroom
  have hkl := St.get_lt hk
  have lim : ∀ b, b ≠ E.φ k → (E.row (E.φ k) ((n + m) * i.size)).lim b = E.lim b := fun b hb => by
    simp only [Env.row]
    rw [if_neg hb]
  have lime : (E.row (E.φ k) ((n + m) * i.size)).lim (E.φ k) = (n + m) * i.size := by simp [Env.row]
  have L : Le E s w (E.row (E.φ k) ((n + m) * i.size)) (s.set k (.tip t (n + m))) (w.setCells (E.φ k) (n * i.size) vs) := by
    refine ⟨fun k' t' cs' hk' => ⟨rfl, cs', ?_⟩, fun k' t' n' hk' => ?_, fun b => ?_, fun b j hj => ?_, by rw [St.next_set]; exact Nat.le_refl _, fun b hb hn => s5 b (fun e => hn k hkl e.symm), fun k' hk' => .inl ⟨k', by rwa [St.next_set] at hk', rfl⟩, by rw [s4]; exact Nat.le_refl _, s1, s2, s3⟩
    · have e : k ≠ k' := fun e => by subst e; rw [hk] at hk'; cases hk'
      rw [St.get_set_ne e]
      exact hk'
    · by_cases e : k = k'
      · subst e
        rw [hk] at hk'
        cases hk'
        exact ⟨n + m, St.get_set_eq hkl, by omega, fun _ => ⟨rfl, rfl⟩⟩
      · exact ⟨n', by rw [St.get_set_ne e]; exact hk', Nat.le_refl _, fun _ => ⟨rfl, rfl⟩⟩
    · by_cases e : b = E.φ k
      · rw [e, lime, a6]
        exact Nat.mul_le_mul_right _ (by omega)
      · rw [lim b e]
        exact Nat.le_refl _
    · by_cases e : b = E.φ k
      · subst e
        rw [a6] at hj
        exact World.cell?_setCells_out _ _ _ _ _ (fun _ _ => .inl hj)
      · exact World.cell?_of_block (by exact s5 b e)
  refine ⟨L, ⟨fun k' t' cs' hk' => ?_, fun k' t' n' hk' => ?_, fun i j hi hj e => h.inj i j (by rwa [St.next_set] at hi) (by rwa [St.next_set] at hj) e, fun b hb => ?_⟩⟩
  · have e : k ≠ k' := fun e => by subst e; rw [St.get_set_eq hkl] at hk'; cases hk'
    rw [St.get_set_ne e] at hk'
    have e' : E.φ k' ≠ E.φ k := fun e' => e (h.inj k k' hkl (St.get_lt hk') e'.symm)
    obtain ⟨arr2, c1, c2, c3, c4, c5⟩ := h.obj k' t' cs' hk'
    exact ⟨arr2, by rw [show (E.row (E.φ k) ((n + m) * i.size)).φ k' = E.φ k' from rfl, s5 _ e']; exact c1, c2, fun j x hj => (c3 j x hj).mono L, c4, by rw [show (E.row (E.φ k) ((n + m) * i.size)).φ k' = E.φ k' from rfl, lim _ e']; exact c5⟩
  · by_cases e : k = k'
    · subst e
      rw [St.get_set_eq hkl] at hk'
      cases hk'
      refine ⟨arr', i, hi, by omega, b1, ?_, hc, a5, lime⟩
      have := congrArg List.length b2
      simp only [Array.length_toList, List.length_append, List.length_take, List.length_drop] at this
      show arr'.size = E.cap k * i.size
      omega
    · rw [St.get_set_ne e] at hk'
      have e' : E.φ k' ≠ E.φ k := fun e' => e (h.inj k k' hkl (St.get_lt hk') e'.symm)
      obtain ⟨arr2, i2, c1, c2, c3, c4, c5, c6, c7⟩ := h.tip k' t' n' hk'
      exact ⟨arr2, i2, c1, c2, by rw [show (E.row (E.φ k) ((n + m) * i.size)).φ k' = E.φ k' from rfl, s5 _ e']; exact c3, c4, c5, c6, by rw [show (E.row (E.φ k) ((n + m) * i.size)).φ k' = E.φ k' from rfl, lim _ e']; exact c7⟩
  · rw [s4] at hb
    have := h.lt hkl
    rw [lim b (by omega)]
    exact h.lim b hb
end AM
end Go.Proofs.Ytlgdiloddphgnaa
