/- The value machine: slices cut and appended to. -/
import Derived.Test.YtlgdiloddphgnaaAM5
set_option linter.unusedSimpArgs false
namespace Go.Proofs.Ytlgdiloddphgnaa
open Go.RowKit
namespace AM
variable {P : Program} {E : Env} {s : St} {w w' : World}

theorem bound_run {k : IntKind} {i : Int} {y : Nat} (h0 : 0 ≤ i) (h1 : i ≤ y) (code : BoundsCode) (w : World) : (Instr.sliceBound (.int k i) y code).run P w = .ok i.toNat w := by
  simp [Instr.sliceBound, asIntOf, h0, h1]
theorem bounds_run (b : Bool) (len cap : Nat) (lo hi mx : Option Value) (l h m : Int)
    (hm : (mx = none ∧ m = cap) ∨ (∃ k, mx = some (.int k m) ∧ m ≤ cap ∧ hi.isSome = true))
    (hh : (hi = none ∧ mx = none ∧ h = len) ∨ (∃ k, hi = some (.int k h) ∧ h ≤ m))
    (hl : (lo = none ∧ l = 0) ∨ (∃ k, lo = some (.int k l) ∧ l ≤ h)) (l0 : 0 ≤ l) (h0 : 0 ≤ h) (m0 : 0 ≤ m) (w : World) :
    (Instr.sliceBounds b len cap lo hi mx).run P w = .ok (l.toNat, h.toNat, m.toNat) w := by
  rcases hm with ⟨rfl, rfl⟩ | ⟨km, rfl, hm, hs⟩
  · rcases hh with ⟨rfl, _, rfl⟩ | ⟨kh, rfl, hh⟩
    · rcases hl with ⟨rfl, rfl⟩ | ⟨kl, rfl, hl⟩
      · simp [Instr.sliceBounds]
      · simp [Instr.sliceBounds, bound_run l0 hl]
    · rcases hl with ⟨rfl, rfl⟩ | ⟨kl, rfl, hl⟩
      · simp [Instr.sliceBounds, bound_run h0 hh]
      · have : l ≤ (h.toNat : Int) := by omega
        simp [Instr.sliceBounds, bound_run h0 hh, bound_run l0 this]
  · rcases hh with ⟨rfl, h', _⟩ | ⟨kh, rfl, hh⟩
    · cases h'
    · have hh' : h ≤ (m.toNat : Int) := by omega
      rcases hl with ⟨rfl, rfl⟩ | ⟨kl, rfl, hl⟩
      · simp [Instr.sliceBounds, bound_run m0 hm, bound_run h0 hh']
      · have : l ≤ (h.toNat : Int) := by omega
        simp [Instr.sliceBounds, bound_run m0 hm, bound_run h0 hh', bound_run l0 this]

def RelO (E : Env) (s : St) (w : World) : Option AV → Option Value → Prop
  | none, none => True
  | some x, some v => RelV E s w x v
  | _, _ => False
theorem bnd_rel {d i : Int} {x : Option AV} {v : Option Value} (h : bnd d x = some i) (hx : RelO E s w x v) : (x = none ∧ v = none ∧ i = d) ∨ ∃ k, v = some (.int k i) := by
  cases x <;> cases v <;> simp only [bnd, RelO, Option.some.injEq] at h hx
  · exact .inl ⟨rfl, rfl, h.symm⟩
  · obtain ⟨k, rfl⟩ := isZ_int h hx
    exact .inr ⟨k, rfl⟩
theorem cut_lies {A : Option Addr} {xs : List AV} {us : Nat → Value} (hl : Lies E w A xs.length us) (hx : ∀ j x, xs[j]? = some x → RelV E s w x (us j)) (z l k m : Nat) (hm : l + k ≤ m) :
    ∃ us', Lies E w (if m = l then A else A.map (·.add (l * z))) ((xs.drop (l * z)).take (k * z)).length us' ∧ ∀ j x, ((xs.drop (l * z)).take (k * z))[j]? = some x → RelV E s w x (us' j) := by
  refine ⟨fun j => us (l * z + j), ?_, fun j x hj => ?_⟩
  · by_cases h0 : ((xs.drop (l * z)).take (k * z)).length = 0
    · exact .inl h0
    · have h1 : 0 < k * z ∧ l * z < xs.length := by
        simp at h0
        omega
      have hk : 0 < k := by
        rcases Nat.eq_zero_or_pos k with e | e
        · rw [e, Nat.zero_mul] at h1
          omega
        · exact e
      rcases hl with hl | ⟨b, off, rfl, hlim, hc⟩
      · omega
      · rw [if_neg (by omega)]
        refine .inr ⟨b, off + l * z, by simp [Addr.add_plain], by simp; omega, fun j hj => ?_⟩
        simp at hj
        rw [Nat.add_assoc]
        exact hc (l * z + j) (by omega)
  · rw [List.getElem?_take] at hj
    split at hj
    · rw [List.getElem?_drop] at hj
      exact hx _ x hj
    · cases hj
theorem cut_run {t e : TypeId} {z : Nat} {full : Bool} {n cap : Nat} {xs : List AV} {A : Option Addr} {us : Nat → Value} {lo hi mx : Option AV} {lo' hi' mx' : Option Value} {y : AV}
    (he : elemOf P t = some e) (hz : size P e = some z) (h : acut z full n xs lo hi mx = some y) (hl : Lies E w A xs.length us) (hx : ∀ j x, xs[j]? = some x → RelV E s w x (us j)) (hc : n ≤ cap) (hm : cap ≤ maxLen) (hf : full = true → cap = n)
    (rlo : RelO E s w lo lo') (rhi : RelO E s w hi hi') (rmx : RelO E s w mx mx') : ∃ u, (Instr.sliceAt t (.slice A n cap) lo' hi' mx').run P w = .ok u w ∧ RelV E s w y u := by
  have hu := elem_run he
  have run : ∀ l h m : Int, (Instr.sliceBounds true n cap lo' hi' mx').run P w = .ok (l.toNat, h.toNat, m.toNat) w → (Instr.sliceAt t (.slice A n cap) lo' hi' mx').run P w = .ok (.slice (if m.toNat = l.toNat then A else A.map (·.add (l.toNat * z))) (h.toNat - l.toNat) (m.toNat - l.toNat)) w := by
    intro l h m hb
    simp [Instr.sliceAt, Instr.slice, run_underlying hu, hb, size_run hz]
  unfold acut at h
  split at h
  · rename_i l hh e1 e2
    cases mx' with
    | some v => exact rmx.elim
    | none =>
      split at h
      · rename_i hb
        cases h
        have hb1 := bnd_rel e1 rlo
        have hb2 := bnd_rel e2 rhi
        refine ⟨_, run l hh cap (bounds_run true n cap lo' hi' none l hh cap (.inl ⟨rfl, rfl⟩) ?_ ?_ hb.1 (by omega) (by omega) w), ?_⟩
        · rcases hb2 with ⟨_, h2, h3⟩ | ⟨k, h2⟩
          · exact .inl ⟨h2, rfl, h3⟩
          · exact .inr ⟨k, h2, by omega⟩
        · rcases hb1 with ⟨_, h2, h3⟩ | ⟨k, h2⟩
          · exact .inl ⟨h2, h3⟩
          · exact .inr ⟨k, h2, by omega⟩
        · obtain ⟨us', c1, c2⟩ := cut_lies hl hx z l.toNat (hh.toNat - l.toNat) (cap : Int).toNat (by omega)
          refine .lst _ _ _ _ _ us' c1 c2 (by omega) (by omega) (fun hfl => ?_)
          simp only [Bool.and_eq_true, decide_eq_true_eq] at hfl
          have := hf hfl.1
          omega
      · cases h
  · rename_i l hh v e1 e2
    cases mx' with
    | none => exact rmx.elim
    | some v' =>
      split at h
      · rename_i m hzm
        obtain ⟨km, rfl⟩ := isZ_int hzm rmx
        split at h
        · rename_i hb
          cases h
          have hb1 := bnd_rel e1 rlo
          have hb2 := bnd_rel e2 rhi
          have hsome : hi'.isSome = true := by
            cases hi <;> cases hi' <;> simp_all [RelO]
          refine ⟨_, run l hh m (bounds_run true n cap lo' hi' _ l hh m (.inr ⟨km, rfl, by omega, hsome⟩) ?_ ?_ hb.1 (by omega) (by omega) w), ?_⟩
          · rcases hb2 with ⟨_, h2, h3⟩ | ⟨k, h2⟩
            · rw [h2] at hsome
              cases hsome
            · exact .inr ⟨k, h2, by omega⟩
          · rcases hb1 with ⟨_, h2, h3⟩ | ⟨k, h2⟩
            · exact .inl ⟨h2, h3⟩
            · exact .inr ⟨k, h2, by omega⟩
          · obtain ⟨us', c1, c2⟩ := cut_lies hl hx z l.toNat (hh.toNat - l.toNat) m.toNat (by omega)
            refine .lst _ _ _ _ _ us' c1 c2 (by omega) (by omega) (fun hfl => ?_)
            simp only [decide_eq_true_eq] at hfl
            omega
        · cases h
      · cases h
  · cases h
theorem slice_run {t : TypeId} {x y : AV} {v : Value} {lo hi mx : Option AV} {lo' hi' mx' : Option Value} (h : aslice P t x lo hi mx = some y) (hx : RelV E s w x v)
    (rlo : RelO E s w lo lo') (rhi : RelO E s w hi hi') (rmx : RelO E s w mx mx') : ∃ u, (Instr.sliceAt t v lo' hi' mx').run P w = .ok u w ∧ RelV E s w y u := by
  unfold aslice at h
  split at h
  · rename_i b
    cases hx
    split at h
    · rename_i l hh e1 e2
      cases mx' with
      | some v => exact rmx.elim
      | none =>
        split at h
        · rename_i hb
          cases h
          have hu := isStr_run hb.2.2.2
          have hb1 := bnd_rel e1 rlo
          have hb2 := bnd_rel e2 rhi
          have := bounds_run (P := P) false b.size b.size lo' hi' none l hh b.size (.inl ⟨rfl, rfl⟩) (by
            rcases hb2 with ⟨_, h2, h3⟩ | ⟨k, h2⟩
            · exact .inl ⟨h2, rfl, h3⟩
            · exact .inr ⟨k, h2, by omega⟩) (by
            rcases hb1 with ⟨_, h2, h3⟩ | ⟨k, h2⟩
            · exact .inl ⟨h2, h3⟩
            · exact .inr ⟨k, h2, by omega⟩) hb.1 (by omega) (by omega) w
          exact ⟨_, by simp [Instr.sliceAt, Instr.slice, run_underlying hu, this], .str _⟩
        · cases h
    · cases h
  · rename_i full n xs
    split at h
    · rename_i e he
      cases hz : size P e with
      | none => simp [hz] at h
      | some z =>
        simp only [hz, Option.bind_some] at h
        cases hx with
        | lst _ _ cap _ A us hl hxs hc hm hf => exact cut_run he hz h hl hxs hc hm hf rlo rhi rmx
    · cases h
  · rename_i k n xs
    split at h
    · rename_i e he
      cases hz : size P e with
      | none => simp [hz] at h
      | some z =>
        simp only [hz, Option.bind_some] at h
        cases hx with
        | own _ _ cap _ A us hl hxs hc hm t' m hk hn hv =>
          split at h
          · rename_i hno
            cases h
            have h1 : lo' = none := by cases lo <;> cases lo' <;> simp_all [RelO]
            have h2 : hi' = none := by cases hi <;> cases hi' <;> simp_all [RelO]
            have h3 : mx' = none := by cases mx <;> cases mx' <;> simp_all [RelO]
            subst h1 h2 h3
            refine ⟨.slice A n cap, ?_, .own k n cap xs A us hl hxs hc hm t' m hk hn hv⟩
            have := bounds_run (P := P) true n cap none none none 0 n cap (.inl ⟨rfl, rfl⟩) (.inl ⟨rfl, rfl, rfl⟩) (.inl ⟨rfl, rfl⟩) (by omega) (by omega) (by omega) w
            simp [Instr.sliceAt, Instr.slice, run_underlying (elem_run he), this, size_run hz]
            intro _
            cases A with
            | none => rfl
            | some a => simp [Addr.add]
          · exact cut_run he hz h hl hxs hc hm (fun hh => by cases hh) rlo rhi rmx
    · cases h
  · cases h

/-- Of a list its cells, where an append reads them. -/
theorem list_values {A : Option Addr} {xs : List AV} {us : Nat → Value} (hl : Lies E w A xs.length us) (hx : ∀ j x, xs[j]? = some x → RelV E s w x (us j)) : ∃ vs : List Value, vs.length = xs.length ∧ (∀ u ∈ vs, u.oneCell' = true) ∧ (∀ (j : Nat) (x : AV), xs[j]? = some x → ∃ u, vs[j]? = some u ∧ RelV E s w x u) ∧ ∀ ad, A = some ad → ∀ (j : Nat) (v : Value), vs[j]? = some v → w.cell? (ad.add j) = some v := by
  rcases hl with h0 | ⟨b, off, rfl, hlim, hc⟩
  · refine ⟨[], by simp [h0], by simp, fun j x hj => ?_, by simp⟩
    have := (List.getElem?_eq_some_iff.1 hj).1
    omega
  · refine ⟨(List.range xs.length).map us, by simp, fun u hu => ?_, fun j x hj => ?_, fun ad ha j v hj => ?_⟩
    · simp only [List.mem_map, List.mem_range] at hu
      obtain ⟨j, hj, rfl⟩ := hu
      exact (hc j hj).2
    · have hlt := (List.getElem?_eq_some_iff.1 hj).1
      exact ⟨us j, by simp [hlt], hx j x hj⟩
    · cases ha
      have hlt : j < xs.length := by have := (List.getElem?_eq_some_iff.1 hj).1; simpa using this
      simp [hlt] at hj
      subst hj
      rw [Addr.add_plain]
      exact (hc j hlt).1
theorem grow_run {t e : TypeId} {i : TypeInfo} {z : Value} (ty : TypeId) (ht : P.underlying t = some (.slice e)) (hi : P.info? e = some i) (hz : i.zero = some z) (A : Option Addr) (n : Nat) (olds : List Value) (hlo : olds.length = n * i.size) (holds : ∀ ad, A = some ad → ∀ (j : Nat) (v : Value), olds[j]? = some v → w.cell? (ad.add j) = some v) (hn0 : A = none → n = 0)
    (a : Addr) (m c : Nat) (news : List Value) (hl : news.length = m * i.size) (hnews : ∀ (j : Nat) (v : Value), news[j]? = some v → w.cell? (a.add j) = some v) (hm : 0 < m) (hb : (n + m) * i.bytes ≤ 140737488355328) (hbp : 0 < i.bytes) :
    (Builtin.append_ #[t, t] ty #[.slice A n n, .slice (some a) m c]).run P w =
      .ok (.slice (some ⟨w.heap.size, 0, none⟩) (n + m) (grownCap w (n + m) n e)) (w.drew.alloc (.cells (olds.toArray ++ news.toArray ++ Builtin.zeroCells z.cells (grownCap w (n + m) n e - (n + m))) e)) := by
  have h1 : n + m ≤ (n + m) * i.bytes := Nat.le_mul_of_pos_right _ hbp
  cases A with
  | some b => exact run_append_grow w t ty e i z ht hi hz b n n olds hlo (holds b rfl) a m c news hl hnews (by omega) (by omega) (growslice_fits (by omega) hb)
  | none =>
    have hn := hn0 rfl
    subst hn
    have e0 : olds = [] := List.eq_nil_of_length_eq_zero (by simpa using hlo)
    subst e0
    have := run_append_nil (P := P) w t ty e i z ht hi hz a m c news hl hnews hm (by omega) (by rw [Nat.zero_add] at hb; omega)
    simpa using this
/-- Two lists' cells, one behind the other. -/
theorem join_rel {E' : Env} {s' : St} {xs ys : List AV} {os vs : List Value} (L : Le E s w E' s' w') (o1 : os.length = xs.length) (o3 : ∀ (j : Nat) (x : AV), xs[j]? = some x → ∃ u, os[j]? = some u ∧ RelV E s w x u) (v3 : ∀ (j : Nat) (x : AV), ys[j]? = some x → ∃ u, vs[j]? = some u ∧ RelV E s w x u) (j : Nat) (x : AV) (hj : (xs ++ ys)[j]? = some x) : RelV E' s' w' x ((os ++ vs).getD j undef) := by
  rw [List.getElem?_append] at hj
  split at hj
  · rename_i hlt
    obtain ⟨q, hq, hr⟩ := o3 j x hj
    rw [List.getD, List.getElem?_append_left (by omega), hq]
    exact hr.mono L
  · rename_i hlt
    obtain ⟨q, hq, hr⟩ := v3 _ x hj
    rw [List.getD, List.getElem?_append_right (by omega), o1, hq]
    exact hr.mono L
theorem row_lies {b : Nat} {xs ys : List AV} {os vs : List Value} {arr : Array Value} {t : TypeId} (o1 : os.length = xs.length) (v1 : vs.length = ys.length) (o2 : ∀ u ∈ os, u.oneCell' = true) (v2 : ∀ u ∈ vs, u.oneCell' = true) (rest : List Value) (ha : arr.toList = (os ++ vs) ++ rest) (hcell : w'.heap[b]? = some (.cells arr t (0, 0))) {E' : Env} (hl : xs.length + ys.length ≤ E'.lim b) :
    Lies E' w' (some ⟨b, 0, none⟩) (xs ++ ys).length (fun j => (os ++ vs).getD j undef) := by
  refine .inr ⟨b, 0, rfl, by simpa using hl, fun j hj => ?_⟩
  have hjl : j < (os ++ vs).length := by simp at hj ⊢; omega
  have hg : (os ++ vs).getD j undef = (os ++ vs)[j] := by rw [List.getD, List.getElem?_eq_getElem hjl]; rfl
  refine ⟨?_, ?_⟩
  · show World.cell? _ ⟨b, 0 + j, none⟩ = some ((os ++ vs).getD j undef)
    rw [Nat.zero_add, hg]
    simp only [World.cell?]
    rw [hcell]
    simp only [Option.isSome_none, Bool.false_eq_true, if_false]
    rw [← List.getElem?_eq_getElem hjl, ← Array.getElem?_toList, ha]
    rw [List.getElem?_append_left (by simpa using hjl)]
  · show ((os ++ vs).getD j undef).oneCell' = true
    rw [hg]
    rcases List.mem_append.1 (List.getElem_mem hjl) with h | h
    · exact o2 _ h
    · exact v2 _ h
theorem append_run (hR : Rel P E s w) {t t' : TypeId} {x y r : AV} {s' : St} {v u : Value} (ty : TypeId) (h : aappend P s t t' x y = some (r, s')) (hx : RelV E s w x v) (hy : RelV E s w y u) :
    ∃ q w' E', (Builtin.append_ #[t, t'] ty #[v, u]).run P w = .ok q w' ∧ RelV E' s' w' r q ∧ Le E s w E' s' w' ∧ Rel P E' s' w' := by
  unfold aappend at h
  split at h
  · rename_i e m ys he hys
    split at h
    · rename_i i hi
      split at h
      · rename_i hc
        obtain ⟨rfl, hsz, hby, hzz⟩ := hc
        obtain ⟨z, hz, hzs⟩ := Option.map_eq_some_iff.1 hzz
        obtain ⟨B, capB, usB, rfl, hmB, hcB, hlB, hxB⟩ := asList_rel hys hy
        have hu := elem_run he
        split at h
        · rename_i hm0
          subst hm0
          have same : ∀ A n cap, v = .slice A n cap → n ≤ cap → (Builtin.append_ #[t', t'] ty #[v, .slice B 0 capB]).run P w = .ok v w := by
            rintro A n cap rfl hnc
            cases A <;> cases B <;> simp [Builtin.append_, run_underlying hu, sizeOf, typeInfo, hi, Builtin.lenOf, Builtin.firstCells, loadCells, loadCellsFrom, hnc, storeCells]
          split at h
          · cases h
            cases hx with
            | lst _ _ cap _ A us hl hxs hc hm hf => exact ⟨_, w, E, same A _ cap rfl hc, .lst _ _ cap _ A us hl hxs hc hm hf, Le.refl _ _ _, hR⟩
          · cases h
            cases hx with
            | own _ _ cap _ A us hl hxs hc hm t2 m2 hk hn hv => exact ⟨_, w, E, same A _ cap rfl hc, .own _ _ cap _ A us hl hxs hc hm t2 m2 hk hn hv, Le.refl _ _ _, hR⟩
          · cases h
        · rename_i hm0
          obtain ⟨vs, v1, v2, v3, v4⟩ := list_values hlB hxB
          have ysne : ys.length = m * i.size → ∃ ad, B = some ad := fun hl => by
            rcases hlB with h0 | ⟨b, off, rfl, _⟩
            · rw [h0] at hl
              have := Nat.mul_pos (Nat.pos_of_ne_zero hm0) hsz
              omega
            · exact ⟨_, rfl⟩
          split at h
          · rename_i n xs
            split at h
            · rename_i hb
              obtain ⟨hb, hxl, hyl⟩ := hb
              cases h
              obtain ⟨ad, rfl⟩ := ysne hyl
              cases hx with
              | lst _ _ cap _ A us hl hxs hc hm hf =>
                have := hf rfl
                subst this
                obtain ⟨os, o1, o2, o3, o4⟩ := list_values hl hxs
                have hrun := grow_run (w := w) ty hu hi hz A cap os (by omega) o4 (fun hA => by
                  subst hA
                  rcases hl with h0 | ⟨b, off, h1, _⟩
                  · rw [h0] at hxl
                    rcases Nat.eq_zero_or_pos cap with e | e
                    · exact e
                    · have := Nat.mul_pos e hsz
                      omega
                  · cases h1) ad m capB vs (by omega) (v4 ad rfl) (Nat.pos_of_ne_zero hm0) hb hby
                have h1 : cap + m ≤ (cap + m) * i.bytes := Nat.le_mul_of_pos_right _ hby
                have hge := grownCap_ge w (cap + m) cap e
                have hcm : grownCap w (cap + m) cap e ≤ maxLen := grownCap_le_maxLen w (cap + m) cap e (by simp only [maxLen]; omega)
                have hasz : (os.toArray ++ vs.toArray ++ Builtin.zeroCells z.cells (grownCap w (cap + m) cap e - (cap + m))).size = grownCap w (cap + m) cap e * i.size := by
                  simp only [Array.size_append, List.size_toArray, size_zeroCells, hzs, o1, v1, hxl, hyl, ← Nat.add_mul]
                  congr 1
                  omega
                obtain ⟨L, R⟩ := new_tip hR e i hi (cap + m) (grownCap w (cap + m) cap e) _ (Alloc.drew w _) (by omega) hasz hge hcm
                refine ⟨_, _, _, hrun, ?_, L, R⟩
                have e1 : (E.ins s.next w.heap.size (grownCap w (cap + m) cap e) ((cap + m) * i.size)).φ s.next = w.heap.size := by simp [Env.ins]
                have e2 : (E.ins s.next w.heap.size (grownCap w (cap + m) cap e) ((cap + m) * i.size)).cap s.next = grownCap w (cap + m) cap e := by simp [Env.ins]
                have e3 : (E.ins s.next w.heap.size (grownCap w (cap + m) cap e) ((cap + m) * i.size)).lim w.heap.size = (cap + m) * i.size := by simp [Env.ins]
                have hcell := (Alloc.drew w (.cells (os.toArray ++ vs.toArray ++ Builtin.zeroCells z.cells (grownCap w (cap + m) cap e - (cap + m))) e)).new
                refine .own s.next (cap + m) _ (xs ++ ys) _ (fun j => (os ++ vs).getD j undef) ?_ (join_rel L o1 o3 v3) hge hcm e (cap + m) St.get_push_new (Nat.le_refl _) (fun _ => ⟨by rw [e1], e2.symm⟩)
                exact row_lies o1 v1 o2 v2 (Builtin.zeroCells z.cells (grownCap w (cap + m) cap e - (cap + m))).toList (by simp) hcell (by rw [e3, hxl, hyl, ← Nat.add_mul]; exact Nat.le_refl _)
            · cases h
          · rename_i k n xs
            split at h
            · rename_i e' n' hk
              split at h
              · rename_i hb
                obtain ⟨rfl, rfl, hb, hxl, hyl⟩ := hb
                cases h
                obtain ⟨ad, rfl⟩ := ysne hyl
                cases hx with
                | own _ _ cap _ A us hl hxs hc hm t2 m2 hk2 hn hv =>
                  rw [hk] at hk2
                  cases hk2
                  obtain ⟨rfl, rfl⟩ := hv rfl
                  obtain ⟨arr, i', a0, a1, a2, a3, a4, a5, a6⟩ := hR.tip k _ _ hk
                  rw [hi] at a0
                  cases a0
                  obtain ⟨os, o1, o2, o3, o4⟩ := list_values hl hxs
                  have h1 : n' + m ≤ (n' + m) * i.bytes := Nat.le_mul_of_pos_right _ hby
                  by_cases hroom : n' + m ≤ E.cap k
                  · have hvl : n' * i.size + vs.length ≤ arr.size := by
                      rw [v1, hyl, a3, ← Nat.add_mul]
                      exact Nat.mul_le_mul_right _ hroom
                    have hrun := run_append_room_cells (P := P) w t' ty e' i hu hi (E.φ k) 0 n' (E.cap k) ad m capB vs (by omega) (v4 ad rfl) v2 hroom (fun j hj => by
                      simp only [World.cell?, a2, Option.isSome_none, Bool.false_eq_true, if_false]
                      simp
                      omega) (fun j hj => by simp [World.frozen?, a2])
                    obtain ⟨L, R⟩ := grow_tip hR hk i hi m vs (by omega) hroom
                    rw [Nat.zero_add] at hrun
                    refine ⟨_, _, _, hrun, ?_, L, R⟩
                    obtain ⟨arr', b1, b2⟩ := setCells_heap vs (n' * i.size) w arr a2 hvl
                    have e3 : (E.row (E.φ k) ((n' + m) * i.size)).lim (E.φ k) = (n' + m) * i.size := by simp [Env.row]
                    have hos : arr.toList.take (n' * i.size) = os := by
                      apply List.ext_getElem?
                      intro j
                      rw [List.getElem?_take]
                      split
                      · rename_i hj
                        have hjo : j < os.length := by omega
                        have hc := o4 _ rfl j _ (List.getElem?_eq_getElem hjo)
                        rw [Addr.add_plain, Nat.zero_add] at hc
                        simp only [World.cell?, a2, Option.isSome_none, Bool.false_eq_true, if_false] at hc
                        rw [List.getElem?_eq_getElem hjo, Array.getElem?_toList]
                        exact hc
                      · rw [List.getElem?_eq_none (by omega)]
                    refine .own k (n' + m) _ (xs ++ ys) _ (fun j => (os ++ vs).getD j undef) ?_ (join_rel L o1 o3 v3) hroom hm e' (n' + m) (St.get_set_eq (St.get_lt hk)) (Nat.le_refl _) (fun _ => ⟨rfl, rfl⟩)
                    exact row_lies o1 v1 o2 v2 (arr.toList.drop (n' * i.size + vs.length)) (by rw [b2, hos]) b1 (by rw [e3, hxl, hyl, ← Nat.add_mul]; exact Nat.le_refl _)
                  · have hrun := run_append_grow (P := P) w t' ty e' i z hu hi hz ⟨E.φ k, 0, none⟩ n' (E.cap k) os (by omega) (o4 _ rfl) ad m capB vs (by omega) (v4 ad rfl) (by omega) (by omega) (growslice_fits (by omega) hb)
                    have hge := grownCap_ge w (n' + m) (E.cap k) e'
                    have hcm : grownCap w (n' + m) (E.cap k) e' ≤ maxLen := grownCap_le_maxLen w (n' + m) (E.cap k) e' (by simp only [maxLen]; omega)
                    have hasz : (os.toArray ++ vs.toArray ++ Builtin.zeroCells z.cells (grownCap w (n' + m) (E.cap k) e' - (n' + m))).size = grownCap w (n' + m) (E.cap k) e' * i.size := by
                      simp only [Array.size_append, List.size_toArray, size_zeroCells, hzs, o1, v1, hxl, hyl, ← Nat.add_mul]
                      congr 1
                      omega
                    obtain ⟨L, R⟩ := move_tip hR hk i hi m (grownCap w (n' + m) (E.cap k) e') _ (Alloc.drew w _) (by omega) hasz hge hcm
                    refine ⟨_, _, _, hrun, ?_, L, R⟩
                    have e1 : (E.ins k w.heap.size (grownCap w (n' + m) (E.cap k) e') ((n' + m) * i.size)).φ k = w.heap.size := by simp [Env.ins]
                    have e2 : (E.ins k w.heap.size (grownCap w (n' + m) (E.cap k) e') ((n' + m) * i.size)).cap k = grownCap w (n' + m) (E.cap k) e' := by simp [Env.ins]
                    have e3 : (E.ins k w.heap.size (grownCap w (n' + m) (E.cap k) e') ((n' + m) * i.size)).lim w.heap.size = (n' + m) * i.size := by simp [Env.ins]
                    have hcell := (Alloc.drew w (.cells (os.toArray ++ vs.toArray ++ Builtin.zeroCells z.cells (grownCap w (n' + m) (E.cap k) e' - (n' + m))) e')).new
                    refine .own k (n' + m) _ (xs ++ ys) _ (fun j => (os ++ vs).getD j undef) ?_ (join_rel L o1 o3 v3) hge hcm e' (n' + m) (St.get_set_eq (St.get_lt hk)) (Nat.le_refl _) (fun _ => ⟨by rw [e1], e2.symm⟩)
                    exact row_lies o1 v1 o2 v2 (Builtin.zeroCells z.cells (grownCap w (n' + m) (E.cap k) e' - (n' + m))).toList (by simp) hcell (by rw [e3, hxl, hyl, ← Nat.add_mul]; exact Nat.le_refl _)
              · cases h
            · cases h
          · cases h
      · cases h
    · cases h
  · cases h
end AM
end Go.Proofs.Ytlgdiloddphgnaa
