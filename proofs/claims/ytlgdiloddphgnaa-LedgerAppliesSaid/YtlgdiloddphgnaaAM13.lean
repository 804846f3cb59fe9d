/- The value machine over this program: functions whose answer is told. -/
import Derived.Test.YtlgdiloddphgnaaAM12
import Derived.Test.YtlgdiloddphgnaaRows
import Derived.Laws.CopyOwn
import Derived.Deep.OwnRows
import Derived.Lib.Hide
set_option linter.unusedSimpArgs false
set_option linter.unusedVariables false
namespace Go.Proofs.Ytlgdiloddphgnaa
open Go.RowKit
namespace AM
variable {E : Env} {s : St} {w : World}

theorem mixed : Try.prog.follows .mixedOrders = true := by kernel_rfl
theorem names_all : (Try.prog.funcs.all fun fn => fn.name != "runtime.NumGoroutine") = true := by kernel_rfl
theorem names : NamesOK Try.prog := fun f fn hf => by
  have := Array.all_eq_true_iff_forall_mem.1 names_all fn (Array.mem_of_getElem? hf)
  simpa using this

theorem ready {f : FuncId} {fn : Func} (hf : Try.prog.funcs[f]? = some fn) (hb : fn.body.isSome = true) (args : Array Value) (w : World) : (callFunc f args).run Try.prog w = .ok (.enter f args) w := by
  obtain ⟨c, hc⟩ := Option.isSome_iff_exists.1 hb
  simp [callFunc, hf, names f fn hf, hc]

/-- A new row, seen from behind. -/
theorem new_row_below {P : Program} {w' : World} (h : Rel P E s w) (hb : Below w.heap.size w w') (hlt : w.heap.size < w'.heap.size) (m : Nat) : Le E s w (E.row w.heap.size m) s w' ∧ Rel P (E.row w.heap.size m) s w' := by
  have lim : ∀ b, b ≠ w.heap.size → (E.row w.heap.size m).lim b = E.lim b := fun b hb => by
    simp only [Env.row]
    rw [if_neg hb]
  have old : ∀ b i, b < w.heap.size → w'.cell? ⟨b, i, none⟩ = w.cell? ⟨b, i, none⟩ := fun b i hlt => World.cell?_of_block (by exact hb.block b hlt)
  have L : Le E s w (E.row w.heap.size m) s w' := by
    refine ⟨fun k t' cs' hk => ⟨rfl, cs', hk⟩, fun k t' n hk => ⟨n, hk, Nat.le_refl _, fun _ => ⟨rfl, rfl⟩⟩, fun b => ?_, fun b i hi => old b i (cell_lt h hi), Nat.le_refl _, fun b hb' _ => hb.block b hb', fun k hk => .inl ⟨k, hk, rfl⟩, hb.size, hb.os, hb.tape, hb.output⟩
    by_cases e : b = w.heap.size
    · rw [e, h.lim _ (Nat.le_refl _)]
      omega
    · rw [lim b e]
      exact Nat.le_refl _
  refine ⟨L, ⟨fun k t' cs' hk => ?_, fun k t' n hk => ?_, h.inj, fun b hb' => ?_⟩⟩
  · obtain ⟨arr', a1, a2, a3, a4, a5⟩ := h.obj k t' cs' hk
    have hlt := h.lt (St.get_lt hk)
    refine ⟨arr', by rw [show (E.row w.heap.size m).φ k = E.φ k from rfl, hb.block _ hlt]; exact a1, a2, fun j x hj => (a3 j x hj).mono L, a4, ?_⟩
    rw [lim _ (by show E.φ k ≠ _; omega)]
    exact a5
  · obtain ⟨arr', i, a1, a2, a3, a4, a5, a6, a7⟩ := h.tip k t' n hk
    have hlt := h.lt (St.get_lt hk)
    refine ⟨arr', i, a1, a2, by rw [show (E.row w.heap.size m).φ k = E.φ k from rfl, hb.block _ hlt]; exact a3, a4, a5, a6, ?_⟩
    rw [lim _ (by show E.φ k ≠ _; omega)]
    exact a7
  · rw [lim b (by omega)]
    exact h.lim b (by omega)

set_option maxRecDepth 100000
/-- tape.Bytes: a copy of the bytes. -/
def bytesPrim (args : List AV) (s : St) : Option (AV × St) :=
  match args with
  | [.ptr o 0] =>
    match s.get o with
    | some (.cells _ (v :: _)) =>
      match asList v with
      | some (n, xs) => if xs.length = n ∧ n ≤ 4194304 then some (.lst false n xs, s) else none
      | none => none
    | _ => none
  | _ => none
theorem bytes_walk (tb : Nat) (A : Option Addr) (n c : Nat) (vs : List Value) (w : World) (p0 : w.cell? ⟨tb, 0, none⟩ = some (.slice A n c)) (hlt : tb < w.heap.size) (hl : vs.length = n) (hn : n ≤ 4194304) (hc : n ≤ c) (hcm : c ≤ 9223372036854775807) (h1 : ∀ u ∈ vs, u.oneCell' = true) (hv : 0 < vs.length → ∃ ad, A = some ad ∧ ∀ (j : Nat) (v : Value), vs[j]? = some v → w.cell? (ad.add j) = some v ∧ ad.block < w.heap.size) :
    Calls Try.prog 19 #[.pointer (some ⟨tb, 0, none⟩)] w fun e w' => e = .returned (.slice (some ⟨w.heap.size, 0, none⟩) n n) ∧ w'.heap[w.heap.size]? = some (.cells vs.toArray 5 (0, 0)) ∧ Below w.heap.size w w' := by
  have hsrc : ∀ o : Obj, 0 < vs.length → (some ⟨w.heap.size, 0, none⟩ : Option Addr) = some ⟨w.heap.size, 0, none⟩ ∧ ∃ ad, A = some ad ∧ ∀ (j : Nat) (v : Value), vs[j]? = some v → (w.alloc o).cell? (ad.add j) = some v := fun o h => by
    obtain ⟨ad, ha, hq⟩ := hv h
    refine ⟨rfl, ad, ha, fun j v hj => ?_⟩
    obtain ⟨q1, q2⟩ := hq j v hj
    have hb : (ad.add j).block = ad.block := by
      unfold Addr.add
      split <;> rfl
    rw [World.cell?_of_block (w := w) (by rw [hb]; exact Below.heap_alloc _ _ _ q2)]
    exact q1
  have HSRC := Lib.hid hsrc
  clear hsrc
  have e1 : vs.length = Nat.min n n := by simp [hl]
  have e2 : 0 + vs.length ≤ (List.replicate n (Value.int .u8 0)).length := by simp [hl]
  have E1 := Lib.hid e1
  have E2 := Lib.hid e2
  clear e1 e2
  have HL := Lib.hid hl
  clear hl hv
  have H1 := Lib.hid h1
  clear h1
  have hmk := fun W : World => run_make_row' (P := Try.prog) 48 5 (.int .u8 0) 1 Try.underlying48 (by kernel_rfl) rfl .i64 .i64 n (by omega) (by omega) W
  have hrow : ∀ w : World, (w.alloc (Obj.cells (madeCells #[Value.int IntKind.u8 0] n) 5)).heap[w.heap.size]? = some (.cells (List.replicate n (Value.int .u8 0)).toArray 5 (0, 0)) := by
    intro w
    rw [heap_alloc_new]
    congr 2
    apply Array.ext
    · simp [size_madeCells]
    · intro i h1 h2
      simp [madeCells, Nat.mod_one]
  have HROW := Lib.hid hrow
  clear hrow
  go_enter Try.func19, Try.ntmps19
  go_wp2_with (refine wpList_copy_splice rfl (.tmp 10) (.tmp 14) 48 48 rfl 5 (by kernel_rfl) (by kernel_rfl) (some ⟨w.heap.size, 0, none⟩) A n n n c rfl rfl w.heap.size 0 (List.replicate n (.int .u8 0)) 5 (HROW.out w) vs E1.out (HSRC.out _) E2.out H1.out w.heap.size w ((Below.refl _ _).alloc (Nat.le_refl _) _) (Nat.le_refl _) ?_; intro w2 hg2 hb2)
  go_ret
  refine ⟨rfl, ?_, hb2⟩
  rw [hg2.out]
  simp [splice, HL.out]
theorem bytes_ok {args : List AV} {x : AV} {s' : St} (h : bytesPrim args s = some (x, s')) : (∀ (args' : Array Value) (w : World), (callFunc 19 args').run Try.prog w = .ok (.enter 19 args') w) ∧
    ∀ (E : Env) (w : World) (us : Array Value), RelA E s w args us → Rel Try.prog E s w → Calls Try.prog 19 us w fun e w' => ∃ u E', e = .returned u ∧ RelV E' s' w' x u ∧ Le E s w E' s' w' ∧ Rel Try.prog E' s' w' := by
  have hrd := fun args' w => ready (f := 19) (fn := Try.f19) Try.func19 (by kernel_rfl) args' w
  refine ⟨hrd, ?_⟩
  clear hrd
  intro E w us hA hR
  unfold bytesPrim at h
  split at h
  · rename_i o
    split at h
    · rename_i t v rest hk
      split at h
      · rename_i n xs hv
        split at h
        · rename_i hc
          cases h
          obtain ⟨hxn, hn⟩ := hc
          obtain ⟨hs, hx⟩ := hA
          have h0 := hx 0 _ rfl
          obtain ⟨u, rfl⟩ : ∃ u, us = #[u] := Array.size_eq_one_iff.1 (by simpa using hs)
          · have e : (#[u] : Array Value).getD 0 undef = u := rfl
            rw [e] at h0
            cases h0 with
            | ptr _ _ t' cs' h' =>
              obtain ⟨arr, a1, a2, a3, a4, a5⟩ := hR.obj o t _ hk
              have hv0 := a3 0 v rfl
              have hpos : 0 < arr.size := by rw [a2]; simp
              obtain ⟨A, cap, usv, hsl, hnc, hcm, hl, hxs⟩ := asList_rel hv hv0
              obtain ⟨vs, v1, v2, v3, v4⟩ := list_values hl hxs
              have p0 : w.cell? ⟨E.φ o, 0, none⟩ = some (.slice A n cap) := by
                rw [← hsl]
                simp only [World.cell?, a1, Option.isSome_none, Bool.false_eq_true, if_false]
                exact getD_get hpos
              have hcall := bytes_walk (E.φ o) A n cap vs w p0 (hR.lt (St.get_lt hk)) (by omega) hn hnc (by simpa [maxLen] using hcm) v2 (fun hp => by
                rcases hl with h0 | ⟨b, off, rfl, hlim, hc⟩
                · omega
                · refine ⟨_, rfl, fun j v hj => ⟨v4 _ rfl j v hj, ?_⟩⟩
                  exact cell_lt (b := b) hR (i := off) (by omega))
              refine hcall.mono fun e w' he => ?_
              obtain ⟨rfl, hcell, hb⟩ := he
              have hlt : w.heap.size < w'.heap.size := (Array.getElem?_eq_some_iff.1 hcell).1
              obtain ⟨L, R⟩ := new_row_below hR hb hlt n
              refine ⟨_, _, rfl, ?_, L, R⟩
              refine .lst false n n xs _ (fun j => ([] ++ vs).getD j undef) ?_ (fun j x hj => ?_) (Nat.le_refl _) (by simp [maxLen]; omega) (fun hh => by cases hh)
              · have := row_lies (E' := E.row w.heap.size n) (xs := []) (ys := xs) (os := []) (vs := vs) (arr := vs.toArray) (t := 5) rfl v1 (by simp) v2 [] (by simp) hcell (by simp [Env.row, hxn])
                simpa using this
              · exact join_rel (xs := []) (ys := xs) (os := []) (vs := vs) L rfl (by simp) v3 j x (by simpa using hj)
        · cases h
      · cases h
    · cases h
  · cases h

/-- The functions that are told. -/
def prims : Callee := fun f args s => if f = 19 then bytesPrim args s else none
theorem prims_ok : CallOK Try.prog prims := fun g args s x s' h => by
  unfold prims at h
  split at h
  · rename_i e
    subst e
    exact bytes_ok h
  · cases h
/-- The machine over this program. -/
noncomputable def run (n : Nat) : Callee := acall Try.prog prims n
theorem run_ok (n : Nat) : CallOK Try.prog (run n) := call_ok mixed names prims_ok n
end AM
end Go.Proofs.Ytlgdiloddphgnaa
