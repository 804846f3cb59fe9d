/- The value machine's states and the model's worlds: what it is for one to stand for the other, and that it lasts. -/
import Derived.Test.YtlgdiloddphgnaaAM1
import Derived.Deep.MidRow
import Derived.Deep.Upon
import Derived.ArgAppend
namespace Go.Proofs.Ytlgdiloddphgnaa
open Go.RowKit
namespace AM

/-- Where the state's entries lie; the capacity of those that grow; how many cells of a block are never written again. -/
structure Env where
  φ : Nat → Nat
  cap : Nat → Nat
  lim : Nat → Nat

def Lies (E : Env) (w : World) (A : Option Addr) (m : Nat) (us : Nat → Value) : Prop :=
  m = 0 ∨ ∃ b off, A = some ⟨b, off, none⟩ ∧ off + m ≤ E.lim b ∧ ∀ j, j < m → w.cell? ⟨b, off + j, none⟩ = some (us j) ∧ (us j).oneCell' = true

inductive RelV (E : Env) (s : St) (w : World) : AV → Value → Prop
  | und (v : Value) : RelV E s w .und v
  | no : RelV E s w .no undef
  | bool (b : Bool) : RelV E s w (.bool b) (.bool b)
  | int (k : IntKind) (n : Int) : RelV E s w (.int k n) (.int k n)
  | str (x : ByteArray) : RelV E s w (.str x) (.string x)
  | nilp : RelV E s w .nilp (.pointer none)
  | nilm : RelV E s w .nilm (.map none)
  | nilf : RelV E s w .nilf .nilFunc
  | ptr (o off : Nat) (t : TypeId) (cs : List AV) (h : s.get o = some (.cells t cs)) : RelV E s w (.ptr o off) (.pointer (some ⟨E.φ o, off, none⟩))
  | view (b off : Nat) (xs : List AV) (us : Nat → Value) (h : Lies E w (some ⟨b, off, none⟩) xs.length us) (hx : ∀ j x, xs[j]? = some x → RelV E s w x (us j)) : RelV E s w (.view xs) (.pointer (some ⟨b, off, none⟩))
  | lst (full : Bool) (n cap : Nat) (xs : List AV) (A : Option Addr) (us : Nat → Value) (h : Lies E w A xs.length us) (hx : ∀ j x, xs[j]? = some x → RelV E s w x (us j)) (hc : n ≤ cap) (hm : cap ≤ maxLen) (hf : full = true → cap = n) : RelV E s w (.lst full n xs) (.slice A n cap)
  | own (k n cap : Nat) (xs : List AV) (A : Option Addr) (us : Nat → Value) (h : Lies E w A xs.length us) (hx : ∀ j x, xs[j]? = some x → RelV E s w x (us j)) (hc : n ≤ cap) (hm : cap ≤ maxLen) (t : TypeId) (m : Nat) (hk : s.get k = some (.tip t m)) (hn : n ≤ m) (he : m = n → A = some ⟨E.φ k, 0, none⟩ ∧ cap = E.cap k) : RelV E s w (.own k n xs) (.slice A n cap)
  | fn (f : FuncId) (first caps : List AV) (us vs : Array Value) (h1 : us.size = first.length) (h2 : vs.size = caps.length) (hx : ∀ j x, first[j]? = some x → RelV E s w x (us.getD j undef)) (hy : ∀ j x, caps[j]? = some x → RelV E s w x (vs.getD j undef)) : RelV E s w (.fn f first caps) (.func (.func f) us vs)
  | agg (xs : List AV) (us : Array Value) (hl : us.size = xs.length) (hx : ∀ j x, xs[j]? = some x → RelV E s w x (us.getD j undef)) (ho : ∀ u ∈ us, u.oneCell' = true) : RelV E s w (.agg xs) (.agg us)
  | tup (xs : List AV) (us : Array Value) (hl : us.size = xs.length) (hx : ∀ j x, xs[j]? = some x → RelV E s w x (us.getD j undef)) : RelV E s w (.tup xs) (.tuple us)

structure Rel (P : Program) (E : Env) (s : St) (w : World) : Prop where
  obj : ∀ k t cs, s.get k = some (.cells t cs) → ∃ arr : Array Value, w.heap[E.φ k]? = some (.cells arr t (0, 0)) ∧ arr.size = cs.length ∧ (∀ j x, cs[j]? = some x → RelV E s w x (arr.getD j undef)) ∧ (∀ u ∈ arr, u.oneCell' = true) ∧ E.lim (E.φ k) = 0
  tip : ∀ k t n, s.get k = some (.tip t n) → ∃ (arr : Array Value) (i : TypeInfo), P.info? t = some i ∧ 0 < n ∧ w.heap[E.φ k]? = some (.cells arr t (0, 0)) ∧ arr.size = E.cap k * i.size ∧ n ≤ E.cap k ∧ E.cap k ≤ maxLen ∧ E.lim (E.φ k) = n * i.size
  inj : ∀ k k', k < s.next → k' < s.next → E.φ k = E.φ k' → k = k'
  lim : ∀ b, w.heap.size ≤ b → E.lim b = 0

structure Le (E : Env) (s : St) (w : World) (E' : Env) (s' : St) (w' : World) : Prop where
  cells : ∀ k t cs, s.get k = some (.cells t cs) → E'.φ k = E.φ k ∧ ∃ cs', s'.get k = some (.cells t cs')
  tips : ∀ k t n, s.get k = some (.tip t n) → ∃ n', s'.get k = some (.tip t n') ∧ n ≤ n' ∧ (n' = n → E'.φ k = E.φ k ∧ E'.cap k = E.cap k)
  lim : ∀ b, E.lim b ≤ E'.lim b
  mem : ∀ b i, i < E.lim b → w'.cell? ⟨b, i, none⟩ = w.cell? ⟨b, i, none⟩
  next : s.next ≤ s'.next
  far : ∀ b, b < w.heap.size → (∀ k, k < s.next → E.φ k ≠ b) → w'.heap[b]? = w.heap[b]?
  mine : ∀ k, k < s'.next → (∃ k0, k0 < s.next ∧ E.φ k0 = E'.φ k) ∨ w.heap.size ≤ E'.φ k
  size : w.heap.size ≤ w'.heap.size
  os : w'.os = w.os
  tape : w'.tape = w.tape
  output : w'.output = w.output

theorem Le.refl (E : Env) (s : St) (w : World) : Le E s w E s w :=
  ⟨fun _ _ cs h => ⟨rfl, cs, h⟩, fun _ _ n h => ⟨n, h, Nat.le_refl _, fun _ => ⟨rfl, rfl⟩⟩, fun _ => Nat.le_refl _, fun _ _ _ => rfl, Nat.le_refl _, fun _ _ _ => rfl, fun k hk => .inl ⟨k, hk, rfl⟩, Nat.le_refl _, rfl, rfl, rfl⟩
theorem Le.trans {E E1 E2 : Env} {s s1 s2 : St} {w w1 w2 : World} (h : Le E s w E1 s1 w1) (k : Le E1 s1 w1 E2 s2 w2) : Le E s w E2 s2 w2 where
  cells := fun i t cs hi => by
    obtain ⟨e1, cs1, h1⟩ := h.cells i t cs hi
    obtain ⟨e2, cs2, h2⟩ := k.cells i t cs1 h1
    exact ⟨e2.trans e1, cs2, h2⟩
  tips := fun i t n hi => by
    obtain ⟨n1, h1, l1, e1⟩ := h.tips i t n hi
    obtain ⟨n2, h2, l2, e2⟩ := k.tips i t n1 h1
    refine ⟨n2, h2, Nat.le_trans l1 l2, fun e => ?_⟩
    have a1 : n1 = n := by omega
    have a2 : n2 = n1 := by omega
    exact ⟨(e2 a2).1.trans (e1 a1).1, (e2 a2).2.trans (e1 a1).2⟩
  lim := fun b => Nat.le_trans (h.lim b) (k.lim b)
  mem := fun b i hi => (k.mem b i (Nat.lt_of_lt_of_le hi (h.lim b))).trans (h.mem b i hi)
  next := Nat.le_trans h.next k.next
  far := fun b hb hn => by
    rw [k.far b (Nat.lt_of_lt_of_le hb h.size) (fun i hi e => ?_), h.far b hb hn]
    rcases h.mine i hi with ⟨k0, hk0, e0⟩ | hge
    · exact hn k0 hk0 (e0.trans e)
    · omega
  mine := fun i hi => by
    rcases k.mine i hi with ⟨k1, hk1, e1⟩ | hge
    · rcases h.mine k1 hk1 with ⟨k0, hk0, e0⟩ | hge
      · exact .inl ⟨k0, hk0, e0.trans e1⟩
      · exact .inr (by omega)
    · exact .inr (Nat.le_trans h.size hge)
  size := Nat.le_trans h.size k.size
  os := k.os.trans h.os
  tape := k.tape.trans h.tape
  output := k.output.trans h.output

theorem Lies.mono {E E' : Env} {s s' : St} {w w' : World} {A : Option Addr} {m : Nat} {us : Nat → Value} (L : Le E s w E' s' w') (h : Lies E w A m us) : Lies E' w' A m us := by
  rcases h with h | ⟨b, off, hA, hl, hc⟩
  · exact .inl h
  · exact .inr ⟨b, off, hA, Nat.le_trans hl (L.lim b), fun j hj => ⟨by rw [L.mem b (off + j) (by omega)]; exact (hc j hj).1, (hc j hj).2⟩⟩

theorem RelV.mono {E E' : Env} {s s' : St} {w w' : World} (L : Le E s w E' s' w') {x : AV} {u : Value} (h : RelV E s w x u) : RelV E' s' w' x u := by
  induction h with
  | und v => exact .und v
  | no => exact .no
  | bool b => exact .bool b
  | int k n => exact .int k n
  | str x => exact .str x
  | nilp => exact .nilp
  | nilm => exact .nilm
  | nilf => exact .nilf
  | ptr o off t cs h =>
    obtain ⟨e, cs', h'⟩ := L.cells o t cs h
    rw [← e]
    exact .ptr o off t cs' h'
  | view b off xs us h hx ih => exact .view b off xs us (h.mono L) ih
  | lst full n cap xs A us h hx hc hm hf ih => exact .lst full n cap xs A us (h.mono L) ih hc hm hf
  | own k n cap xs A us h hx hc hm t m hk hn he ih =>
    obtain ⟨m', h', l, e⟩ := L.tips k t m hk
    refine .own k n cap xs A us (h.mono L) ih hc hm t m' h' (Nat.le_trans hn l) (fun em => ?_)
    have e1 : m' = m := by omega
    have e2 : m = n := by omega
    rw [(e e1).1, (e e1).2]
    exact he e2
  | fn f first caps us vs h1 h2 hx hy ih1 ih2 => exact .fn f first caps us vs h1 h2 ih1 ih2
  | agg xs us hl hx ho ih => exact .agg xs us hl ih ho
  | tup xs us hl hx ih => exact .tup xs us hl ih

/-- The temporaries. -/
def RelA (E : Env) (s : St) (w : World) (a : Fr) (us : Array Value) : Prop := us.size = a.length ∧ ∀ j x, a[j]? = some x → RelV E s w x (us.getD j undef)
theorem RelA.mono {E E' : Env} {s s' : St} {w w' : World} {a : Fr} {us : Array Value} (L : Le E s w E' s' w') (h : RelA E s w a us) : RelA E' s' w' a us := ⟨h.1, fun j x hj => (h.2 j x hj).mono L⟩

theorem getD_lt {us : Array Value} {j : Nat} (h : j < us.size) : us.getD j undef = us[j] := by simp [Array.getD, h]
theorem getD_get {us : Array Value} {j : Nat} (h : j < us.size) : us[j]? = some (us.getD j undef) := by rw [getD_lt h, Array.getElem?_eq_getElem h]

theorem RelA.put {E : Env} {s : St} {w : World} {a : Fr} {us : Array Value} {d : List Deferred} (h : RelA E s w a us) (dst : Option Tmp) {x : AV} {u : Value} (hx : RelV E s w x u) : RelA E s w (put a dst x) ((Act.put ⟨us, d⟩ dst u).tmps) := by
  cases dst with
  | none => exact h
  | some t =>
    refine ⟨by simp [AM.put, Act.put, h.1], fun j y hj => ?_⟩
    simp only [AM.put, List.getElem?_set] at hj
    by_cases hjt : t = j
    · subst hjt
      simp only [if_true] at hj
      split at hj
      · rename_i hlt
        have e : x = y := by simpa using hj
        subst e
        have : t < us.size := by rw [h.1]; exact hlt
        simpa [Act.put, Array.getD, this] using hx
      · cases hj
    · rw [if_neg hjt] at hj
      have hlt := (List.getElem?_eq_some_iff.1 hj).1
      have h0 := h.2 j y hj
      have hs : j < us.size := by rw [h.1]; exact hlt
      have : (us.setIfInBounds t u).getD j undef = us.getD j undef := by
        simp [Array.getD, hs, hjt]
      simp only [Act.put]
      rw [this]
      exact h0

/-- Constants and operands. -/
theorem relV_const1 (E : Env) (s : St) (w : World) (v : Value) : RelV E s w (ofConst1 v) v := by
  unfold ofConst1
  split
  · exact .bool _
  · exact .int _ _
  · exact .str _
  · exact .nilp
  · exact .lst true 0 0 [] none (fun _ => undef) (.inl rfl) (fun j x h => by simp at h) (Nat.le_refl _) (Nat.zero_le _) (fun _ => rfl)
  · exact .nilf
  · exact .nilm
  · split
    · rename_i h
      exact .fn _ [] [] _ _ (by simpa using h.1) (by simpa using h.2) (fun j x h => by simp at h) (fun j x h => by simp at h)
    · exact .und _
  · exact .und _
theorem relV_const (E : Env) (s : St) (w : World) (v : Value) : RelV E s w (ofConst v) v := by
  unfold ofConst
  split
  · rename_i cs
    split
    · rename_i h
      refine .agg _ _ (by simp) (fun j x hj => ?_) (fun u hu => (Array.all_eq_true_iff_forall_mem.1 h) u hu)
      rw [List.getElem?_map] at hj
      cases hc : cs.toList[j]? with
      | none => simp [hc] at hj
      | some c =>
        have e : ofConst1 c = x := by simpa [hc] using hj
        subst e
        have hlt : j < cs.size := by have := (List.getElem?_eq_some_iff.1 hc).1; simpa using this
        have : cs.getD j undef = c := by
          rw [getD_lt hlt]
          have := hc
          simp [hlt] at this
          exact this
        rw [this]
        exact relV_const1 E s w c
    · exact .und _
  · exact relV_const1 E s w v
theorem relV_ev {E : Env} {s : St} {w : World} {a : Fr} {us : Array Value} {d : List Deferred} (h : RelA E s w a us) (x : Operand) : RelV E s w (ev a x) (Act.eval ⟨us, d⟩ x) := by
  cases x with
  | tmp t =>
    simp only [ev, Act.eval, List.getD]
    cases ht : a[t]? with
    | none =>
      have hge : us.size ≤ t := by
        rw [h.1]
        exact List.getElem?_eq_none_iff.1 ht
      have : us.getD t undef = undef := by simp [Array.getD, Nat.not_lt.2 hge]
      simp only [Option.getD_none]
      rw [this]
      exact .no
    | some x => exact h.2 t x ht
  | const v => exact relV_const E s w v
  | global g => exact .und _
  | func f => exact .fn _ [] [] #[] #[] rfl rfl (fun j x h => by simp at h) (fun j x h => by simp at h)
end AM
end Go.Proofs.Ytlgdiloddphgnaa
