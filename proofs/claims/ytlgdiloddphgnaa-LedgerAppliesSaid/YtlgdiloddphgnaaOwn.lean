/- Slices that a call makes itself: lists of structs that grow by append. Plain lemmas over any program. -/
import Derived.Test.YtlgdiloddphgnaaBase
import Derived.Maps.AppendAt
namespace Go.Proofs.Ytlgdiloddphgnaa
open Go.RowKit

/-! ### Lists of lists of one length -/
theorem flat_len {α : Type} {sz : Nat} : ∀ (l : List (List α)), (∀ c ∈ l, c.length = sz) → l.flatten.length = l.length * sz
  | [], _ => by simp
  | c :: l, h => by
    rw [List.flatten_cons, List.length_append, flat_len l (fun c hc => h c (List.mem_cons_of_mem _ hc)), h c List.mem_cons_self, List.length_cons, Nat.add_mul, Nat.one_mul, Nat.add_comm]
theorem flat_at {α : Type} {sz : Nat} : ∀ (l : List (List α)), (∀ c ∈ l, c.length = sz) → ∀ (i j : Nat) (c : List α) (u : α), l[i]? = some c → c[j]? = some u → l.flatten[i * sz + j]? = some u
  | [], _, i, j, c, u, hi, _ => by simp at hi
  | c0 :: l, h, 0, j, c, u, hi, hj => by
    have e : c0 = c := by simpa using hi
    subst e
    have hl : j < c0.length := (List.getElem?_eq_some_iff.1 hj).1
    rw [List.flatten_cons, Nat.zero_mul, Nat.zero_add, List.getElem?_append_left hl, hj]
  | c0 :: l, h, i + 1, j, c, u, hi, hj => by
    have h0 := h c0 List.mem_cons_self
    have hi' : l[i]? = some c := by simpa using hi
    have := flat_at l (fun c hc => h c (List.mem_cons_of_mem _ hc)) i j c u hi' hj
    rw [List.flatten_cons, List.getElem?_append_right (by rw [h0, Nat.add_mul]; omega), h0, show (i + 1) * sz + j - sz = i * sz + j by rw [Nat.add_mul, Nat.one_mul]; omega]
    exact this
theorem flat_inv {α : Type} {sz : Nat} : ∀ (l : List (List α)), (∀ c ∈ l, c.length = sz) → ∀ (k : Nat) (u : α), l.flatten[k]? = some u → ∃ i j c, l[i]? = some c ∧ c[j]? = some u ∧ k = i * sz + j
  | [], _, k, u, hk => by simp at hk
  | c0 :: l, h, k, u, hk => by
    have h0 := h c0 List.mem_cons_self
    rw [List.flatten_cons] at hk
    rcases Nat.lt_or_ge k c0.length with hl | hl
    · rw [List.getElem?_append_left hl] at hk
      exact ⟨0, k, c0, by simp, hk, by omega⟩
    · rw [List.getElem?_append_right hl] at hk
      obtain ⟨i, j, c, hi, hj, e⟩ := flat_inv l (fun c hc => h c (List.mem_cons_of_mem _ hc)) _ u hk
      refine ⟨i + 1, j, c, by simpa using hi, hj, ?_⟩
      rw [Nat.add_mul, Nat.one_mul]
      omega
theorem choose_list {α β : Type} : ∀ (xs : List α) (p : Nat → α → β → Prop), (∀ i x, xs[i]? = some x → ∃ c, p i x c) → ∃ l : List β, l.length = xs.length ∧ ∀ i c x, l[i]? = some c → xs[i]? = some x → p i x c
  | [], p, _ => ⟨[], rfl, fun i c x h => by simp at h⟩
  | x :: xs, p, h => by
    obtain ⟨c, hc⟩ := h 0 x rfl
    obtain ⟨l, hl, hp⟩ := choose_list xs (fun i x c => p (i + 1) x c) (fun i y hy => h (i + 1) y (by simpa using hy))
    refine ⟨c :: l, by simp [hl], fun i d y hd hy => ?_⟩
    cases i with
    | zero =>
      have e1 : c = d := by simpa using hd
      have e2 : x = y := by simpa using hy
      subst e1 e2
      exact hc
    | succ i => exact hp i d y (by simpa using hd) (by simpa using hy)

/-! ### The facts on a slice's type that an append asks for -/
structure AppF (P : Program) (t e : TypeId) (z : Value) (size bytes : Nat) : Prop where
  ht : P.underlying t = some (.slice e)
  info : (P.info? e).map (fun i => (i.zero, i.size, i.bytes)) = some (some z, size, bytes)
  hz : z.cells.size = size
  hs : 0 < size
  hb : 0 < bytes

/-! ### A list that the call owns -/
def OwnL {α : Type} (d : Kn α) (e : TypeId) (S : Nat → Prop) (w : World) (base : Nat) (v : Value) (xs : List α) : Prop :=
  ∃ inner : List (List Value), inner.length = xs.length ∧ w.ownsRow base e d.sz v xs.length inner.flatten ∧ ∀ (i : Nat) (c : List Value) (x : α), inner[i]? = some c → xs[i]? = some x → d.R (fun k => S k ∧ some k ≠ v.ownBlock) w c x

section
variable {α : Type} {d : Kn α} {e : TypeId} {S S2 : Nat → Prop} {w w1 : World} {base : Nat} {v : Value} {xs ys : List α}

theorem OwnL.nil (d : Kn α) (e : TypeId) (S : Nat → Prop) (w : World) (base : Nat) : OwnL d e S w base (.slice none 0 0) [] :=
  ⟨[], rfl, ⟨by simp, .inl ⟨rfl, rfl⟩⟩, fun i c x h => by simp at h⟩

theorem ownsRow_move {n size : Nat} {cs : List Value} (h : w.ownsRow base e size v n cs) (hm : ∀ k, v.ownBlock = some k → k < w.heap.size → w1.heap[k]? = w.heap[k]?) : w1.ownsRow base e size v n cs := by
  obtain ⟨h1, h2⟩ := h
  refine ⟨h1, ?_⟩
  rcases h2 with h2 | ⟨g, cap, cur, rfl, hg, hh, r⟩
  · exact .inl h2
  · exact .inr ⟨g, cap, cur, rfl, hg, (hm g (by simp [Value.ownBlock]) (Array.getElem?_eq_some_iff.1 hh).1).trans hh, r⟩
theorem ownsRow_blk {n size : Nat} {cs : List Value} (h : w.ownsRow base e size v n cs) (k : Nat) (hk : v.ownBlock = some k) : base ≤ k ∧ k < w.heap.size ∧ ∃ cur, w.heap[k]? = some (.cells cur e (0, 0)) := by
  rcases h.2 with ⟨rfl, _⟩ | ⟨g, cap, cur, rfl, hg, hh, _⟩
  · simp [Value.ownBlock] at hk
  · have : g = k := by simpa [Value.ownBlock] using hk
    subst this
    exact ⟨hg, (Array.getElem?_eq_some_iff.1 hh).1, cur, hh⟩

/-- What stays: the own block, and the blocks in which the elements' own rows lie. -/
theorem OwnL.move (h : OwnL d e S w base v xs) (h0 : ∀ k, v.ownBlock = some k → k < w.heap.size → w1.heap[k]? = w.heap[k]?) (h1 : ∀ k, S k → k < w.heap.size → some k ≠ v.ownBlock → w1.heap[k]? = w.heap[k]? ∧ S2 k) : OwnL d e S2 w1 base v xs := by
  obtain ⟨inner, hl, ho, hr⟩ := h
  exact ⟨inner, hl, ownsRow_move ho h0, fun i c x hi hx => d.keep (hr i c x hi hx) fun k hk hlt => ⟨(h1 k hk.1 hlt hk.2).1, (h1 k hk.1 hlt hk.2).2, hk.2⟩⟩
theorem OwnL.below (h : OwnL d e S w base v xs) (hb : Below w.heap.size w w1) : OwnL d e S w1 base v xs :=
  h.move (fun k _ hk => hb.block k hk) (fun k hS hk _ => ⟨hb.block k hk, hS⟩)
theorem OwnL.mono (h : OwnL d e S w base v xs) (hS : ∀ k, S k → k < w.heap.size → S2 k) : OwnL d e S2 w base v xs :=
  h.move (fun _ _ _ => rfl) (fun k hk hl _ => ⟨rfl, hS k hk hl⟩)
theorem OwnL.len (h : OwnL d e S w base v xs) : ∃ A c, v = .slice A xs.length c ∧ xs.length ≤ c := by
  obtain ⟨inner, hl, ho, _⟩ := h
  rcases ho.2 with ⟨rfl, h0⟩ | ⟨g, cap, cur, rfl, _, _, hc, _⟩
  · exact ⟨none, 0, by rw [h0], by omega⟩
  · exact ⟨_, cap, rfl, hc⟩

/-- An owned list reads as a list. -/
theorem OwnL.slice (h : OwnL d e S w base v xs) : ∃ A c, v = .slice A xs.length c ∧ Sl d (fun k => S k ∨ some k = v.ownBlock) w A xs.length c xs := by
  obtain ⟨inner, hl, ho, hr⟩ := h
  rcases ho.2 with ⟨rfl, h0⟩ | ⟨g, cap, cur, rfl, hg, hh, hc, hm, r⟩
  · have e0 : xs = [] := List.eq_nil_of_length_eq_zero h0
    subst e0
    exact ⟨none, 0, rfl, Sl.nil _ _ _ _ _ (by omega)⟩
  · refine ⟨_, cap, rfl, rfl, hc, by simpa [maxLen] using hm, fun i x hi => ?_⟩
    have hil : i < inner.length := by have := (List.getElem?_eq_some_iff.1 hi).1; omega
    have hR := hr i _ x (List.getElem?_eq_getElem hil) hi
    refine ⟨g, 0, inner[i], rfl, .inr rfl, d.keep hR (fun k hk _ => ⟨rfl, .inl hk.1⟩), fun j u hu => ?_⟩
    have hall : ∀ c ∈ inner, c.length = d.sz := fun c hcm => by
      obtain ⟨q, hq, rfl⟩ := List.getElem_of_mem hcm
      have hx : xs[q]? = some (xs[q]'(by omega)) := List.getElem?_eq_getElem (by omega)
      exact d.len (hr q _ _ (List.getElem?_eq_getElem hq) hx)
    have hf := flat_at inner hall i j _ u (List.getElem?_eq_getElem hil) hu
    have hcell := ho.cells (g := g) rfl _ u hf
    have ea : (⟨g, 0, none⟩ : Addr).add (i * d.sz + j) = ⟨g, 0 + i * d.sz + j, none⟩ := by
      unfold Addr.add
      split
      · rename_i hz
        simp only [Addr.mk.injEq, true_and, and_true]
        omega
      · simp only [Addr.mk.injEq, true_and, and_true]
        omega
    rwa [ea] at hcell

/-- append(v, ys...), onto a list of the call's own. -/
theorem OwnL.run {P : Program} {t ty : TypeId} {z : Value} {bytes : Nat} {A : Option Addr} {m c : Nat} (F : AppF P t e z d.sz bytes) (h : OwnL d e S w base v xs) (hy : Sl d S2 w A m c ys)
    (hne : ∀ k, S2 k → k < w.heap.size → some k ≠ v.ownBlock) (hl : (xs.length + m) * bytes ≤ 140737488355328) (hbase : base ≤ w.heap.size) :
    ∃ v' w', (Builtin.append_ #[t, t] ty #[v, .slice A m c]).run P w = .ok v' w' ∧ OwnL d e (fun k => S k ∨ S2 k) w' base v' (xs ++ ys) ∧ w.grownBy w' v.ownBlock ∧ (v'.ownBlock = v.ownBlock ∨ v'.ownBlock = some w.heap.size) := by
  obtain ⟨i0, hi, hzz⟩ := Option.map_eq_some_iff.1 F.info
  simp only [Prod.mk.injEq] at hzz
  obtain ⟨hz0, hz1, hz2⟩ := hzz
  obtain ⟨inner, hil, ho, hr⟩ := h
  have hlen : xs.length + m ≤ 140737488355328 := Nat.le_trans (Nat.le_mul_of_pos_right _ F.hb) hl
  by_cases hm0 : m = 0
  · subst hm0
    have ey : ys = [] := List.eq_nil_of_length_eq_zero hy.hl
    subst ey
    refine ⟨v, w, ?_, ?_, ⟨rfl, rfl, rfl, Nat.le_refl _, fun _ _ _ => rfl⟩, .inl rfl⟩
    · rcases ho.2 with ⟨rfl, h0⟩ | ⟨g, cap, cur, rfl, hg, hh, hc, hm, r⟩
      · cases A <;> simp [Builtin.append_, run_underlying F.ht, sizeOf, typeInfo, hi, Builtin.lenOf, Builtin.firstCells, loadCells, loadCellsFrom]
      · cases A <;> simp [Builtin.append_, run_underlying F.ht, sizeOf, typeInfo, hi, Builtin.lenOf, Builtin.firstCells, loadCells, loadCellsFrom, hc, storeCells]
    · rw [List.append_nil]
      exact ⟨inner, hil, ho, fun i c x hi hx => d.keep (hr i c x hi hx) fun k hk _ => ⟨rfl, .inl hk.1, hk.2⟩⟩
  · obtain ⟨inner2, hl2, hp2⟩ := choose_list ys (fun i x c => d.R S2 w c x ∧ ∀ (j : Nat) (u : Value), c[j]? = some u → ∃ b off, A = some ⟨b, off, none⟩ ∧ w.cell? ⟨b, off + i * d.sz + j, none⟩ = some u) (fun i x hix => by
      obtain ⟨b, off, c, hA, _, hR, hc⟩ := hy.row i x hix
      exact ⟨c, hR, fun j u hu => ⟨b, off, hA, hc j u hu⟩⟩)
    have hyl := hy.hl
    obtain ⟨b, off, c0, hA, _, _, _⟩ := hy.row 0 (ys[0]'(by omega)) (List.getElem?_eq_getElem (by omega))
    subst hA
    have hall2 : ∀ c ∈ inner2, c.length = d.sz := fun c hcm => by
      obtain ⟨q, hq, rfl⟩ := List.getElem_of_mem hcm
      exact d.len (hp2 q _ _ (List.getElem?_eq_getElem hq) (List.getElem?_eq_getElem (by omega))).1
    have hall : ∀ c ∈ inner, c.length = d.sz := fun c hcm => by
      obtain ⟨q, hq, rfl⟩ := List.getElem_of_mem hcm
      exact d.len (hr q _ _ (List.getElem?_eq_getElem hq) (List.getElem?_eq_getElem (by omega)))
    have hnews : ∀ j u, inner2.flatten[j]? = some u → w.cell? ((⟨b, off, none⟩ : Addr).add j) = some u := fun j u hu => by
      obtain ⟨i, j', c, hic, hcj, rfl⟩ := flat_inv inner2 hall2 j u hu
      have hiy : i < ys.length := by have := (List.getElem?_eq_some_iff.1 hic).1; omega
      obtain ⟨b', off', e1, hcell⟩ := (hp2 i c _ hic (List.getElem?_eq_getElem hiy)).2 j' u hcj
      simp only [Option.some.injEq, Addr.mk.injEq, and_true] at e1
      obtain ⟨rfl, rfl⟩ := e1
      have ea : (⟨b, off, none⟩ : Addr).add (i * d.sz + j') = ⟨b, off + i * d.sz + j', none⟩ := by
        unfold Addr.add
        split
        · simp only [Addr.mk.injEq, true_and, and_true]
          omega
        · simp only [Addr.mk.injEq, true_and, and_true]
          omega
      rw [ea]
      exact hcell
    have hone : ∀ u ∈ inner2.flatten, u.oneCell' = true := fun u hu => by
      obtain ⟨c, hcm, huc⟩ := List.mem_flatten.1 hu
      obtain ⟨q, hq, rfl⟩ := List.getElem_of_mem hcm
      exact d.one (hp2 q _ _ (List.getElem?_eq_getElem hq) (List.getElem?_eq_getElem (by omega))).1 u huc
    obtain ⟨v', w', hrun, hown, hg, _, hat⟩ := run_append_own_at (P := P) w base t ty e i0 z d.sz bytes F.ht hi hz0 hz1 hz2 F.hz F.hs v xs.length inner.flatten ho ⟨b, off, none⟩ m c inner2.flatten (by rw [flat_len inner2 hall2, hl2, hyl]) hnews hone (by simp only [maxLen]; omega) hl hbase
    refine ⟨v', w', hrun, ⟨inner ++ inner2, by rw [List.length_append, List.length_append, hil, hl2], ?_, ?_⟩, hg, hat⟩
    · rw [List.length_append, hyl, List.flatten_append]
      exact hown
    · have hfar : ∀ k, k < w.heap.size → some k ≠ v.ownBlock → some k ≠ v'.ownBlock := fun k hk hkv => by
        rcases hat with hat | hat
        · rw [hat]
          exact hkv
        · rw [hat]
          intro e1
          injection e1 with e1
          omega
      intro i c x hic hix
      rcases Nat.lt_or_ge i inner.length with hlt | hge
      · rw [List.getElem?_append_left hlt] at hic
        rw [List.getElem?_append_left (by omega)] at hix
        exact d.keep (hr i c x hic hix) fun k hk hklt => ⟨hg.block k hklt hk.2, .inl hk.1, hfar k hklt hk.2⟩
      · rw [List.getElem?_append_right hge] at hic
        rw [List.getElem?_append_right (by omega)] at hix
        rw [← hil] at hix
        exact d.keep (hp2 _ c x hic hix).1 fun k hk hklt => ⟨hg.block k hklt (hne k hk hklt), .inr hk, hfar k hklt (hne k hk hklt)⟩

/-- At the operation, for the walk. -/
theorem wpl_append {P : Program} {ops : Array Oper} {rest : List Oper} {o : Oper} {a : Act} {Q : Exit → Act → World → Prop} {t : TypeId} {z : Value} {bytes : Nat} {A : Option Addr} {m c : Nat} (hgd : o.guard = none) (sv xv : Operand)
    (ho : o.op = .call { callee := .builtin .append, args := #[sv, xv], argTypes := #[t, t] }) (F : AppF P t e z d.sz bytes) (hs : a.eval sv = v) (hx : a.eval xv = .slice A m c) (h : OwnL d e S w base v xs) (hy : Sl d S2 w A m c ys)
    (hne : ∀ k, S2 k → k < w.heap.size → some k ≠ v.ownBlock) (hl : (xs.length + m) * bytes ≤ 140737488355328) (hbase : base ≤ w.heap.size)
    (hK : ∀ v' w', OwnL d e (fun k => S k ∨ S2 k) w' base v' (xs ++ ys) → w.grownBy w' v.ownBlock → (v'.ownBlock = v.ownBlock ∨ v'.ownBlock = some w.heap.size) → wpList P ops Q rest (a.put o.dst v') w') : wpList P ops Q (o :: rest) a w := by
  refine wpList_plain hgd fun K hK' => ?_
  obtain ⟨v', w', hr, h2, h3, h4⟩ := OwnL.run (ty := o.type) F h hy hne hl hbase
  unfold Oper.wp execOp
  simp only [ho, resolve, invoke, builtin, Sem.run_bind, Sem.run_pure, Result.andThen_ok, List.map_toArray, List.map_cons, List.map_nil, hs, hx, hr]
  exact hK' _ _ (hK v' w' h2 h3 h4)
/-- In a region that draws its order. -/
theorem step_append {P : Program} {ops : Array Oper} {o : Oper} {a : Act} {K : Act → World → Prop} {Q : Exit → Act → World → Prop} {E : Prop} {t : TypeId} {z : Value} {bytes : Nat} {A : Option Addr} {m c : Nat} (hgd : o.guard = none) (sv xv : Operand)
    (ho : o.op = .call { callee := .builtin .append, args := #[sv, xv], argTypes := #[t, t] }) (F : AppF P t e z d.sz bytes) (hs : a.eval sv = v) (hx : a.eval xv = .slice A m c) (h : OwnL d e S w base v xs) (hy : Sl d S2 w A m c ys)
    (hne : ∀ k, S2 k → k < w.heap.size → some k ≠ v.ownBlock) (hl : (xs.length + m) * bytes ≤ 140737488355328) (hbase : base ≤ w.heap.size)
    (hK : ∀ v' w', OwnL d e (fun k => S k ∨ S2 k) w' base v' (xs ++ ys) → w.grownBy w' v.ownBlock → (v'.ownBlock = v.ownBlock ∨ v'.ownBlock = some w.heap.size) → K (a.put o.dst v') w') :
    if Region.wanted o (yielded ops a.tmps) = true then Oper.wp P o a w K Q else E := by
  have hw : Region.wanted o (yielded ops a.tmps) = true := by simp [Region.wanted, hgd]
  rw [if_pos hw]
  obtain ⟨v', w', hr, h2, h3, h4⟩ := OwnL.run (ty := o.type) F h hy hne hl hbase
  unfold Oper.wp execOp
  simp only [ho, resolve, invoke, builtin, Sem.run_bind, Sem.run_pure, Result.andThen_ok, List.map_toArray, List.map_cons, List.map_nil, hs, hx, hr]
  exact hK v' w' h2 h3 h4

/-- The one element that an append is handed lies in a new block. -/
theorem Sl.box {y : α} {cs : List Value} (h : d.R S w cs y) (e' : TypeId) : Sl d (fun k => S k ∨ k = w.heap.size) (w.alloc (.cells cs.toArray e')) (some ⟨w.heap.size, 0, none⟩) 1 1 [y] := by
  refine ⟨rfl, Nat.le_refl _, by omega, fun i x hi => ?_⟩
  cases i with
  | succ i => simp at hi
  | zero =>
    have e1 : y = x := by simpa using hi
    subst e1
    refine ⟨w.heap.size, 0, cs, rfl, .inr rfl, d.keep h (fun k hk hl => ⟨Below.heap_alloc _ _ _ hl, .inl hk⟩), fun j u hu => ?_⟩
    have e2 : 0 + 0 * d.sz + j = j := by omega
    rw [e2]
    simp only [World.cell?, World.alloc, Array.getElem?_push_size]
    simpa using hu
/-- A kind without pointers. -/
def Kn.Flat (d : Kn α) : Prop := ∀ {S S' : Nat → Prop} {w w' : World} {cs : List Value} {x : α}, d.R S w cs x → d.R S' w' cs x
theorem OwnL.flat (hf : d.Flat) (h : OwnL d e S w base v xs) : OwnL d e S2 w base v xs := by
  obtain ⟨inner, hl, ho, hr⟩ := h
  exact ⟨inner, hl, ho, fun i c x hi hx => hf (hr i c x hi hx)⟩
theorem Sl.flat {A : Option Addr} {n cap : Nat} (hf : d.Flat) (h : Sl d S w A n cap xs) : Sl d (fun k => ∃ a, A = some a ∧ k = a.block) w A n cap xs :=
  ⟨h.hl, h.hc, h.hm, fun i x hi => by
    obtain ⟨b, off, c, hA, hS, hR, hc⟩ := h.row i x hi
    exact ⟨b, off, c, hA, ⟨_, hA, rfl⟩, hf hR, hc⟩⟩
theorem OwnL.len' {m : Nat} (h : OwnL d e S w base v xs) (hm : xs.length = m) : ∃ A c, v = .slice A m c ∧ m ≤ c := by
  subst hm
  exact h.len
theorem OwnL.slice' {m : Nat} (h : OwnL d e S w base v xs) (hm : xs.length = m) : ∃ A c, v = .slice A m c ∧ Sl d (fun k => S k ∨ some k = v.ownBlock) w A m c xs := by
  subst hm
  exact h.slice
/-- A list of plain elements that the call owns: where it lies. -/
theorem OwnL.sliceF {m : Nat} (hf : d.Flat) (h : OwnL d e S w base v xs) (hm : xs.length = m) : ∃ A c, v = .slice A m c ∧ Sl d (fun k => base ≤ k) w A m c xs := by
  have h' : OwnL d e (fun _ => False) w base v xs := h.flat hf
  obtain ⟨A, c, hv, hs⟩ := h'.slice' hm
  refine ⟨A, c, hv, hs.mono fun k hk => ?_⟩
  rcases hk with hk | hk
  · exact hk.elim
  · obtain ⟨inner, _, ho, _⟩ := h
    exact (ownsRow_blk ho k hk.symm).1
theorem new2 (w : World) (a b : Obj) : ((w.alloc a).alloc b).heap[w.heap.size]? = some a ∧ ((w.alloc a).alloc b).heap[w.heap.size + 1]? = some b := by
  refine ⟨?_, ?_⟩
  · rw [Below.heap_alloc _ _ _ (by simp)]
    exact heap_alloc_new w a
  · have := heap_alloc_new (w.alloc a) b
    rwa [show (w.alloc a).heap.size = w.heap.size + 1 by simp] at this
theorem new3 (w : World) (a b c : Obj) : (((w.alloc a).alloc b).alloc c).heap[w.heap.size]? = some a ∧ (((w.alloc a).alloc b).alloc c).heap[w.heap.size + 1]? = some b ∧ (((w.alloc a).alloc b).alloc c).heap[w.heap.size + 2]? = some c := by
  obtain ⟨h1, h2⟩ := new2 w a b
  refine ⟨?_, ?_, ?_⟩
  · rw [Below.heap_alloc _ _ _ (by simp; omega)]
    exact h1
  · rw [Below.heap_alloc _ _ _ (by simp)]
    exact h2
  · have := heap_alloc_new ((w.alloc a).alloc b) c
    rwa [show ((w.alloc a).alloc b).heap.size = w.heap.size + 2 by simp] at this
theorem box_facts {b : Nat} {cs : Array Value} {e' : TypeId} (h : w.heap[b]? = some (.cells cs e' (0, 0))) : (∀ j, w.cell? ⟨b, j, none⟩ = cs[j]?) ∧ (∀ j, w.frozen? ⟨b, j, none⟩ = false) := by
  constructor
  · intro j
    simp [World.cell?, h]
  · intro j
    simp [World.frozen?, h]
theorem setCell_box {b j : Nat} {cs : Array Value} {e' : TypeId} {fr : Nat × Nat} (h : w.heap[b]? = some (.cells cs e' fr)) (u : Value) : (w.setCell ⟨b, j, none⟩ u).heap[b]? = some (.cells (cs.setIfInBounds j u) e' fr) := by
  simp [World.setCell, Array.getElem?_modify, h]
theorem Sl.boxAt {y : α} {cs : List Value} (h : d.R S w cs y) (e' : TypeId) (H : Nat) (hH : w.heap.size = H) : Sl d (fun k => S k ∨ k = H) (w.alloc (.cells cs.toArray e')) (some ⟨H, 0, none⟩) 1 1 [y] := by
  subst hH
  exact Sl.box h e'
theorem grown_below {row : Option Nat} (hg : w.grownBy w1 row) (hr : ∀ k, row = some k → base ≤ k) (hbase : base ≤ w.heap.size) : Below base w w1 :=
  (Below.refl base w).grown hg hbase hr
theorem OwnL.own (h : OwnL d e S w base v xs) (k : Nat) (hk : v.ownBlock = some k) : base ≤ k ∧ k < w.heap.size := by
  obtain ⟨inner, _, ho, _⟩ := h
  have := ownsRow_blk ho k hk
  exact ⟨this.1, this.2.1⟩
end
end Go.Proofs.Ytlgdiloddphgnaa
