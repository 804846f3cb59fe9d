/- The value machine: the other operations without calls. -/
import Derived.Test.YtlgdiloddphgnaaAM4
set_option linter.unusedSimpArgs false
namespace Go.Proofs.Ytlgdiloddphgnaa
open Go.RowKit
namespace AM
variable {P : Program} {E : Env} {s : St} {w w' : World}

theorem elem_run {t e : TypeId} (h : elemOf P t = some e) : P.underlying t = some (.slice e) := by
  unfold elemOf at h
  split at h
  · rename_i e' hu
    cases h
    exact hu
  · cases h
theorem isStr_run {t : TypeId} (h : isStrT P t = true) : P.underlying t = some .string := by
  unfold isStrT at h
  split at h
  · assumption
  · cases h
theorem isPtr_run {t : TypeId} (h : isPtrT P t = true) : ∃ e, P.underlying t = some (.pointer e) := by
  unfold isPtrT at h
  split at h
  · rename_i e hu
    exact ⟨e, hu⟩
  · cases h
theorem isZ_int {x : AV} {n : Int} {u : Value} (h : isZ x = some n) (hx : RelV E s w x u) : ∃ k, u = .int k n := by
  cases hx <;> simp only [isZ, Option.some.injEq, reduceCtorEq] at h
  subst h
  exact ⟨_, rfl⟩

theorem parts_rel {a : Fr} {us : Array Value} {d : List Deferred} (hA : RelA E s w a us) (parts : List (Nat × Operand)) :
    ∀ (j : Nat) (p : Nat × AV), (parts.map fun p => (p.1, ev a p.2))[j]? = some p → ∃ v, (parts.map fun p => (p.1, Act.eval ⟨us, d⟩ p.2))[j]? = some (p.1, v) ∧ RelV E s w p.2 v := by
  intro j p hj
  rw [List.getElem?_map] at hj
  cases hp : parts[j]? with
  | none => simp [hp] at hj
  | some q =>
    have e : (q.1, ev a q.2) = p := by simpa [hp] using hj
    subst e
    exact ⟨_, by rw [List.getElem?_map, hp]; rfl, relV_ev hA q.2⟩
theorem build_run {t : TypeId} {parts : List (Nat × AV)} {ps : List (Nat × Value)} {x : AV} (h : abuild P t parts = some x) (hl : ps.length = parts.length) (hp : ∀ (j : Nat) (p : Nat × AV), parts[j]? = some p → ∃ v, ps[j]? = some (p.1, v) ∧ RelV E s w p.2 v) (w0 : World) :
    ∃ u, (Instr.build t ps.toArray).run P w0 = .ok u w0 ∧ RelV E s w x u := by
  unfold abuild at h
  split at h
  · rename_i fs z hu hz
    split at h
    · rename_i pl hpl
      obtain ⟨v, _, hzr, hiv⟩ := zero_run (E := E) (s := s) (w := w) hz
      cases hf : fillIn (fun i => pl.toArray[i]?) z parts with
      | none =>
        rw [hf] at h
        cases h
      | some zs =>
        rw [hf] at h
        cases h
        obtain ⟨vs, f1, f2⟩ := fill_rel parts ps z v.cells zs hzr hl hp hf
        refine ⟨.agg vs, run_build w0 t _ _ ?_, .agg _ _ f2.1 f2.2.1 f2.2.2⟩
        cases hit : P.info? t with
        | none => simp [hit] at hiv
        | some it =>
          simp [hit] at hiv
          simp only [Program.built, hit, hu, hiv, hpl]
          exact f1
    · cases h
  · cases h
theorem rep_rel {z : List AV} {zs : Array Value} (h : RelC E s w z zs) (h0 : 0 < zs.size) (n : Nat) : RelC E s w (List.replicate n z).flatten ((Array.range (n * zs.size)).map (zs[· % zs.size]!)) := by
  obtain ⟨h1, h2, h3⟩ := h
  have hlen : (List.replicate n z).flatten.length = n * zs.size := by simp [h1]
  refine ⟨by simp [h1], fun j x hj => ?_, fun u hu => ?_⟩
  · have hlt : j < n * zs.size := by have := (List.getElem?_eq_some_iff.1 hj).1; omega
    have hm : j % zs.size < zs.size := Nat.mod_lt _ h0
    have e : ((Array.range (n * zs.size)).map (zs[· % zs.size]!)).getD j undef = zs.getD (j % zs.size) undef := by
      simp [Array.getD, hlt, hm]
    rw [e]
    refine h2 _ x ?_
    have : ∀ (n : Nat) (j : Nat), j < n * zs.size → (List.replicate n z).flatten[j]? = z[j % zs.size]? := by
      intro n
      induction n with
      | zero => intro j hj; omega
      | succ n ih =>
        intro j hj
        rw [List.replicate_succ, List.flatten_cons, List.getElem?_append]
        by_cases c : j < z.length
        · rw [if_pos c, Nat.mod_eq_of_lt (by omega)]
        · rw [if_neg c, ih (j - z.length) (by rw [Nat.add_mul] at hj; omega)]
          congr 1
          rw [h1, Nat.mod_eq_sub_mod (show j ≥ z.length by omega)]
    rw [← this n j hlt]
    exact hj
  · simp only [Array.mem_map, Array.mem_range] at hu
    obtain ⟨j, hj, rfl⟩ := hu
    have hm : j % zs.size < zs.size := Nat.mod_lt _ h0
    simp [hm]
    exact h3 _ (Array.getElem_mem hm)
/-- A slice that is written out. -/
theorem buildSlice_run (hR : Rel P E s w) {t : TypeId} {len : Nat} {parts : List (Nat × AV)} {ps : List (Nat × Value)} {x : AV} (h : abuildSlice P t len parts = some x) (hl : ps.length = parts.length) (hp : ∀ (j : Nat) (p : Nat × AV), parts[j]? = some p → ∃ v, ps[j]? = some (p.1, v) ∧ RelV E s w p.2 v) :
    ∃ u w' E', (Instr.buildSlice t len ps.toArray).run P w = .ok u w' ∧ RelV E' s w' x u ∧ Le E s w E' s w' ∧ Rel P E' s w' := by
  unfold abuildSlice at h
  split at h
  · rename_i e he
    split at h
    · rename_i n z hs hz
      split at h
      · rename_i hc
        obtain ⟨h0, h1, h2⟩ := hc
        obtain ⟨v, hv, hzr, _⟩ := zero_run (E := E) (s := s) (w := w) hz
        cases hf : fillIn (fun i => some (i * n, n)) (List.replicate len z).flatten parts with
        | none =>
          rw [hf] at h
          cases h
        | some zs =>
          rw [hf] at h
          cases h
          have hvn : v.cells.size = n := by rw [hzr.1, h1]
          have hrep := rep_rel hzr (by omega) len
          rw [hvn] at hrep
          obtain ⟨vs, f1, f2⟩ := fill_rel parts ps _ _ zs hrep hl hp hf
          have hsz : vs.size = len * n := by
            have : ∀ (parts : List (Nat × AV)) (cs zs : List AV), fillIn (fun i => some (i * n, n)) cs parts = some zs → zs.length = cs.length := by
              intro parts
              induction parts with
              | nil => intro cs zs h; simp [fillIn] at h; rw [h]
              | cons p parts ih =>
                intro cs zs h
                simp only [fillIn] at h
                split at h
                · split at h
                  · rename_i hle
                    rw [ih _ _ h]
                    simp [putCells]
                    omega
                  · cases h
                · cases h
            rw [f2.1, this _ _ _ hf]
            simp [h1]
          obtain ⟨L, R⟩ := new_row hR (.cells vs e (0, 0)) vs.size (Alloc.alloc w _)
          refine ⟨.slice (some ⟨w.heap.size, 0, none⟩) len len, w.alloc (.cells vs e), _, ?_, ?_, L, R⟩
          · have hbig : ¬ (16777216 < len * n) := by omega
            have hn0 : n ≠ 0 := by omega
            by_cases hl0 : len = 0
            · subst hl0
              have hr0 : ∀ f : Nat → Value, Array.map f (Array.range (0 * n)) = #[] := fun f => by apply Array.ext'; simp
              rw [hr0] at f1
              have hr1 : ∀ f : Nat → Value, Array.map f (Array.range 0) = #[] := fun f => by apply Array.ext'; simp
              simp [Instr.buildSlice, run_underlying (elem_run he), size_run hs, hr1, f1, newRow, newObj, Sem.run]
            · have hne : len * n ≠ 0 := Nat.mul_ne_zero hl0 hn0
              simp [Instr.buildSlice, run_underlying (elem_run he), size_run hs, hbig, hne, hn0, hl0, hv, hvn, f1, newRow, newObj, Sem.run]
          · refine .lst true len len zs _ (fun j => vs.getD j undef) ?_ (fun j x hj => (f2.2.1 j x hj).mono L) (Nat.le_refl _) ?_ (fun _ => rfl)
            · refine .inr ⟨w.heap.size, 0, rfl, ?_, fun j hj => ?_⟩
              · simp [Env.row, f2.1]
              · have hjl : j < vs.size := by rw [f2.1]; exact hj
                refine ⟨?_, ?_⟩
                · show _ = some (vs.getD j undef)
                  rw [getD_lt hjl, Nat.zero_add]
                  have := heap_alloc_new w (.cells vs e)
                  simp only [World.cell?]
                  rw [this]
                  simp [hjl]
                · show (vs.getD j undef).oneCell' = true
                  rw [getD_lt hjl]
                  exact f2.2.2 _ (Array.getElem_mem hjl)
            · have : len ≤ 16777216 := Nat.le_trans (Nat.le_mul_of_pos_right len h0) h2
              simp [maxLen]
              omega
      · cases h
    · cases h
  · cases h
theorem field_rel {t : TypeId} {f : Nat} {fd : Field} (h : fieldOf P t f = some fd) : ∃ fs, P.underlying t = some (.struct fs) ∧ fs[f]? = some fd := by
  unfold fieldOf at h
  split at h
  · rename_i fs hu
    exact ⟨fs, hu, h⟩
  · cases h
theorem view_drop {b off : Nat} {xs : List AV} {us : Nat → Value} (h : Lies E w (some ⟨b, off, none⟩) xs.length us) (hx : ∀ j x, xs[j]? = some x → RelV E s w x (us j)) (k : Nat) : RelV E s w (.view (xs.drop k)) (.pointer (some ⟨b, off + k, none⟩)) := by
  refine .view b (off + k) _ (fun j => us (k + j)) ?_ (fun j x hj => by rw [List.getElem?_drop] at hj; exact hx _ x hj)
  rcases h with h | ⟨b', off', hA, hl, hc⟩
  · left
    simp
    omega
  · simp only [Option.some.injEq, Addr.mk.injEq, and_true] at hA
    obtain ⟨rfl, rfl⟩ := hA
    by_cases hk : k < xs.length
    · refine .inr ⟨b, off + k, rfl, by simp; omega, fun j hj => ?_⟩
      simp at hj
      rw [Nat.add_assoc]
      exact hc (k + j) (by omega)
    · left
      simp
      omega
theorem fieldAddr_run {t : TypeId} {f : Nat} {x y : AV} {v : Value} (h : afieldAddr P t x f = some y) (hx : RelV E s w x v) : ∃ u, (Instr.fieldAt t v f).run P w = .ok u w ∧ RelV E s w y u := by
  unfold afieldAddr at h
  split at h
  · rename_i fd hf
    obtain ⟨fs, hu, hfs⟩ := field_rel hf
    split at h
    · rename_i n o off hs
      cases h
      cases hx with
      | ptr _ _ t' cs hk =>
        refine ⟨.pointer (some ⟨E.φ o, off + fd.offset, none⟩), ?_, .ptr _ _ t' cs hk⟩
        simp [Instr.fieldAt, run_underlying hu, hfs, Instr.sureAddr, fieldPlace, size_run hs, Addr.add_plain]
    · rename_i n xs hs
      split at h
      · rename_i hle
        cases h
        cases hx with
        | view b off _ us hl hxs =>
          refine ⟨.pointer (some ⟨b, off + fd.offset, none⟩), ?_, view_drop hl hxs _⟩
          simp [Instr.fieldAt, run_underlying hu, hfs, Instr.sureAddr, fieldPlace, size_run hs, Addr.add_plain]
      · cases h
    · cases h
  · cases h
theorem asList_rel {x : AV} {n : Nat} {xs : List AV} {v : Value} (h : asList x = some (n, xs)) (hx : RelV E s w x v) : ∃ A cap us, v = .slice A n cap ∧ n ≤ cap ∧ cap ≤ maxLen ∧ Lies E w A xs.length us ∧ ∀ j x, xs[j]? = some x → RelV E s w x (us j) := by
  cases hx <;> simp only [asList, Option.some.injEq, Prod.mk.injEq, reduceCtorEq] at h
  case lst full n' cap xs' A us hl hxs hc hm hf =>
    obtain ⟨rfl, rfl⟩ := h
    exact ⟨A, cap, us, rfl, hc, hm, hl, hxs⟩
  case own k n' cap xs' A us hl hxs hc hm t m hk hn he =>
    obtain ⟨rfl, rfl⟩ := h
    exact ⟨A, cap, us, rfl, hc, hm, hl, hxs⟩
theorem indexAddr_run {t : TypeId} {x i y : AV} {v vi : Value} (h : aindexAddr P t x i = some y) (hx : RelV E s w x v) (hi : RelV E s w i vi) : ∃ u, (Instr.indexAt t v vi).run P w = .ok u w ∧ RelV E s w y u := by
  have key : ∀ (e : TypeId) (z n : Nat) (xs : List AV) (k : Int), elemOf P t = some e → size P e = some z → asList x = some (n, xs) → isZ i = some k → 0 ≤ k ∧ k < n ∧ (k.toNat + 1) * z ≤ xs.length ∧ 0 < z → y = .view (xs.drop (k.toNat * z)) → ∃ u, (Instr.indexAt t v vi).run P w = .ok u w ∧ RelV E s w y u := by
    intro e z n xs k he hz hl hk hb hy
    obtain ⟨A, cap, us, rfl, _, _, hli, hxs⟩ := asList_rel hl hx
    obtain ⟨ki, rfl⟩ := isZ_int hk hi
    subst hy
    rcases hli with h0 | ⟨b, off, rfl, hlim, hc⟩
    · exfalso
      have := Nat.mul_pos (Nat.succ_pos k.toNat) hb.2.2.2
      have := hb.2.2.1
      simp only [Nat.succ_eq_add_one] at *
      omega
    · refine ⟨.pointer (some ⟨b, off + k.toNat * z, none⟩), ?_, view_drop (.inr ⟨b, off, rfl, hlim, hc⟩) hxs _⟩
      have hu := elem_run he
      simp [Instr.indexAt, asIntOf, run_underlying hu, hb.1, hb.2.1, size_run hz, Addr.add_plain]
  unfold aindexAddr at h
  split at h
  · rename_i e k he hk
    split at h
    · rename_i z full n xs hz
      split at h
      · rename_i hb
        cases h
        exact key e z n xs k he hz rfl hk hb rfl
      · cases h
    · rename_i z o n xs hz
      split at h
      · rename_i hb
        cases h
        exact key e z n xs k he hz rfl hk hb rfl
      · cases h
    · cases h
  · cases h
end AM
end Go.Proofs.Ytlgdiloddphgnaa
