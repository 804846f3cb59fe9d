/- The value machine: a region that draws its order comes to one end, whatever the order. -/
import Derived.Test.YtlgdiloddphgnaaAM7
import Derived.Orders
set_option linter.unusedSimpArgs false
set_option linter.unusedVariables false
namespace Go.Proofs.Ytlgdiloddphgnaa
open Go.RowKit
namespace AM
variable {P : Program} {call : Callee} {ops : Array Oper}

theorem aop_congr {o : Oper} {a a' : Fr} {s : St} (h : ∀ x ∈ o.op.operands, ev a x = ev a' x) : aop P call o a s = aop P call o a' s := by
  obtain ⟨dst, op, type, pos, after, guard⟩ := o
  have pairs : ∀ ps : Array (Nat × Operand), (∀ x ∈ ps.toList.map (·.2), ev a x = ev a' x) → (ps.toList.map fun p => (p.1, ev a p.2)) = (ps.toList.map fun p => (p.1, ev a' p.2)) := fun ps hp =>
    List.map_congr_left fun p hm => by
      rw [hp p.2 (List.mem_map.2 ⟨p, hm, rfl⟩)]
  have lists : ∀ xs : Array Operand, (∀ x ∈ xs, ev a x = ev a' x) → xs.toList.map (ev a) = xs.toList.map (ev a') := fun xs hp => List.map_congr_left fun x hm => hp x (by simpa using hm)
  cases op <;> simp only [Op.operands] at h <;> simp only [aop]
  case build t ps => rw [pairs ps fun x hx => h x (by simpa using hx)]
  case buildSlice t n ps => rw [pairs ps fun x hx => h x (by simpa using hx)]
  case makeFunc fn first captured =>
    cases fn <;> simp only [aop]
    rw [lists first fun x hx => h x (by simp [hx]), lists captured fun x hx => h x (by simp [hx])]
  case call c =>
    have hargs := lists c.args fun x hx => h x (by simp [Call.operands, hx])
    unfold acallOp
    cases hc : c.callee with
    | value f =>
      have hf : ev a f = ev a' f := h f (by simp [Call.operands, hc])
      simp only [hf, hargs]
    | invoke r m => rfl
    | builtin b =>
      cases b <;> simp only [hargs]
      case len =>
        split
        · rename_i x t h1 h2
          rw [h x (by simp only [Call.operands, Array.mem_append]; right; rw [Array.mem_def, h1]; simp)]
        · rfl
      case append =>
        split
        · rename_i x y t t' h1 h2
          rw [h x (by simp only [Call.operands, Array.mem_append]; right; rw [Array.mem_def, h1]; simp), h y (by simp only [Call.operands, Array.mem_append]; right; rw [Array.mem_def, h1]; simp)]
        · rfl
  case slice t x lo hi mx => cases lo <;> cases hi <;> cases mx <;> simp_all
  all_goals (first | rfl | (simp_all; done))

theorem ev_put {a : Fr} {dst : Option Tmp} {v : AV} {x : Operand} (h : ∀ d, dst = some d → x ≠ .tmp d) : ev (put a dst v) x = ev a x := by
  cases dst with
  | none => rfl
  | some d =>
    cases x with
    | tmp t =>
      have hne : d ≠ t := fun e => h d rfl (e ▸ rfl)
      simp [ev, put, List.getD, List.getElem?_set_ne hne]
    | _ => rfl
theorem put_comm (a : Fr) {x y : Option Tmp} (v u : AV) (h : ∀ d, x = some d → y ≠ some d) : put (put a x v) y u = put (put a y u) x v := by
  cases x with
  | none => rfl
  | some d =>
    cases y with
    | none => rfl
    | some e =>
      have hne : d ≠ e := fun he => h d rfl (he ▸ rfl)
      simp [put, List.set_comm _ _ hne]
/-- What an operation leaves in its temporary. -/
def stepV (P : Program) (call : Callee) (ops : Array Oper) (o : Oper) (a : Fr) (s : St) : Option (AV × St) :=
  match wants ops a o with
  | some true => aop P call o a s
  | some false => some (.no, s)
  | none => none
theorem astep_eq (o : Oper) (a : Fr) (s : St) : astep P call ops o a s = (stepV P call ops o a s).map fun r => (put a o.dst r.1, r.2) := by
  unfold astep stepV
  cases wants ops a o with
  | none => rfl
  | some b => cases b <;> rfl
theorem stepV_put {o : Oper} {a : Fr} {dst : Option Tmp} {v : AV} {s : St} (h : ∀ d, dst = some d → d ∉ o.looksAt ops) : stepV P call ops o (put a dst v) s = stepV P call ops o a s := by
  have h1 : aop P call o (put a dst v) s = aop P call o a s := aop_congr fun x hx => ev_put fun d hd hxd => h d hd (by
    subst hxd
    exact List.mem_append_left _ (List.mem_filterMap.2 ⟨.tmp d, by simpa using hx, rfl⟩))
  have h2 : wants ops (put a dst v) o = wants ops a o := by
    cases dst with
    | none => rfl
    | some d =>
      unfold wants
      cases hg : o.guard with
      | none => rfl
      | some gw =>
        obtain ⟨g, want⟩ := gw
        simp only
        cases ht : (ops[g]?).bind (·.dst) with
        | none => rfl
        | some t =>
          have hne : d ≠ t := fun e => h d rfl (by subst e; simp [Oper.looksAt, hg, ht])
          simp only [put, List.getElem?_set_ne hne]
  unfold stepV
  rw [h1, h2]

theorem aload_congr {s s1 : St} {t : TypeId} {p : AV} (h : ∀ o off, p = .ptr o off → s1.get o = s.get o) : aload P s1 t p = aload P s t p := by
  unfold aload
  split
  · rename_i o off
    rw [h o off rfl]
  · rfl
  · rfl
theorem still_step {o : Oper} {a : Fr} {s s' : St} {x : AV} (he : isEff o.op = false) (h : stepV P call ops o a s = some (x, s')) : s' = s ∧ ∀ s1 : St, (∀ k ∈ readsAt a o.op, s1.get k = s.get k) → stepV P call ops o a s1 = some (x, s1) := by
  unfold stepV at h ⊢
  split at h
  · rename_i hw
    have key : s' = s ∧ ∀ s1 : St, (∀ k ∈ readsAt a o.op, s1.get k = s.get k) → aop P call o a s1 = some (x, s1) := by
      obtain ⟨dst, op, type, pos, after, guard⟩ := o
      have mp : ∀ (m : Option AV), m.map (·, s) = some (x, s') → s' = s ∧ m = some x := by
        intro m hm
        cases m with
        | none => cases hm
        | some y =>
          simp at hm
          exact ⟨hm.2.symm, by rw [hm.1]⟩
      have mq : ∀ (m : Option AV), m.map (·, s) = some (x, s') → s' = s ∧ ∀ s1 : St, m.map (·, s1) = some (x, s1) := by
        intro m hm
        obtain ⟨h1, h2⟩ := mp m hm
        exact ⟨h1, fun s1 => by rw [h2]; rfl⟩
      cases op <;> simp only [isEff, reduceCtorEq] at he <;> simp only [aop] at h ⊢
      case move y =>
        cases h
        exact ⟨rfl, fun s1 _ => rfl⟩
      case assign y =>
        cases h
        exact ⟨rfl, fun s1 _ => rfl⟩
      case pick c y z =>
        split at h
        · cases h
          exact ⟨rfl, fun s1 _ => rfl⟩
        · cases h
      case load t y =>
        obtain ⟨h1, h2⟩ := mp _ h
        refine ⟨h1, fun s1 hs => ?_⟩
        rw [aload_congr (s := s) (s1 := s1) (fun o off hp => hs o (by simp [readsAt, hp])), h2]
        rfl
      case nilCheck y =>
        split at h <;> first | (cases h; exact ⟨rfl, fun s1 _ => rfl⟩) | cases h
      case makeFunc fn first captured =>
        cases fn <;> simp only [aop, reduceCtorEq] at h ⊢
        cases h
        exact ⟨rfl, fun s1 _ => rfl⟩
      case convert src dst y =>
        split at h
        · exact ⟨(mq _ h).1, fun s1 _ => (mq _ h).2 s1⟩
        · cases h
      case field t y f =>
        split at h
        · exact ⟨(mq _ h).1, fun s1 _ => (mq _ h).2 s1⟩
        · cases h
      case index t y i =>
        split at h
        · exact ⟨(mq _ h).1, fun s1 _ => (mq _ h).2 s1⟩
        · cases h
      case extract y i =>
        split at h
        · exact ⟨(mq _ h).1, fun s1 _ => (mq _ h).2 s1⟩
        · cases h
      case call c =>
        unfold acallOp at h ⊢
        cases hc : c.callee with
        | value f =>
          rw [hc] at he
          cases he
        | invoke r m =>
          rw [hc] at h
          cases h
        | builtin b =>
          rw [hc] at h he
          cases b <;> simp only [reduceCtorEq] at h he ⊢
          case len =>
            split at h
            · rename_i h1 h2
              exact ⟨(mq _ h).1, fun s1 _ => (mq _ h).2 s1⟩
            · cases h
          case max => exact ⟨(mq _ h).1, fun s1 _ => (mq _ h).2 s1⟩
          case min => exact ⟨(mq _ h).1, fun s1 _ => (mq _ h).2 s1⟩
      all_goals first
        | exact ⟨(mq _ h).1, fun s1 _ => (mq _ h).2 s1⟩
        | cases h
    exact key
  · rename_i hw
    cases h
    exact ⟨rfl, fun s1 _ => rfl⟩
  · cases h

theorem beqL_eq {f : AV → AV → Bool} (hf : ∀ x y, f x y = true → x = y) : ∀ xs ys, beqL f xs ys = true → xs = ys
  | [], [], _ => rfl
  | x :: xs, y :: ys, h => by
    simp only [beqL, Bool.and_eq_true] at h
    rw [hf x y h.1, beqL_eq hf xs ys h.2]
  | [], _ :: _, h => by cases h
  | _ :: _, [], h => by cases h
theorem beqV_eq : ∀ (n : Nat) (x y : AV), beqV n x y = true → x = y := by
  intro n
  induction n with
  | zero =>
    intro x y h
    cases h
  | succ n ih =>
    intro x y h
    cases x <;> cases y <;> simp only [beqV, Bool.and_eq_true, beq_iff_eq, decide_eq_true_eq, Bool.false_eq_true] at h
    case str.str a b =>
      have : a.data = b.data := Array.ext' h
      cases a
      cases b
      simp at this
      rw [this]
    all_goals first
      | rfl
      | (obtain ⟨⟨h1, h2⟩, h3⟩ := h; first | rw [h1, h2, beqL_eq ih _ _ h3] | rw [h1, beqL_eq ih _ _ h2, beqL_eq ih _ _ h3])
      | (obtain ⟨h1, h2⟩ := h; rw [h1, h2])
      | rw [h]
      | rw [beqL_eq ih _ _ h]
theorem beqO_eq {x y : Option AObj} (h : beqO x y = true) : x = y := by
  unfold beqO at h
  split at h
  · rfl
  · simp only [Bool.and_eq_true, beq_iff_eq] at h
    rw [h.1, beqL_eq (beqV_eq 20) _ _ h.2]
  · simp only [Bool.and_eq_true, beq_iff_eq] at h
    rw [h.1, h.2]
  · cases h

/-- Operation number i. -/
def stepI (P : Program) (call : Callee) (ops : Array Oper) (i : Nat) (a : Fr) (s : St) : Option (Fr × St) :=
  match ops[i]? with
  | some o => astep P call ops o a s
  | none => some (a, s)
/-- The walk of a list, with what is asked on the way. -/
def RunS (P : Program) (call : Callee) (ops : Array Oper) (b : List Nat) (S : St → Prop) (O : List Nat) (af : Fr) (sf : St) : List Nat → Fr → St → Prop
  | [], a, s => a = af ∧ s = sf
  | i :: l, a, s => ∃ o x s1, ops[i]? = some o ∧ stepV P call ops o a s = some (x, s1) ∧ S s1 ∧ (freeAt ops b i = true → ∀ k ∈ readsAt a o.op, k ∈ O) ∧ RunS P call ops b S O af sf l (put a o.dst x) s1

/-- Two neighbours that wait neither for the other change places. -/
theorem swap_run {b : List Nat} {s0 : St} {O : List Nat} {af : Fr} {sf : St} {i j : Nat} {l : List Nat} {a : Fr} {s : St} {oj oi : Oper} (hj : ops[j]? = some oj) (hi : ops[i]? = some oi) (hS : ∀ k ∈ O, s.get k = s0.get k)
    (hp : pairOK ops oj oi = true) (hw1 : waits b i j = false) (hw2 : waits b j i = false) (hne : i ≠ j)
    (h : RunS P call ops b (fun s' => ∀ k ∈ O, s'.get k = s0.get k) O af sf (j :: i :: l) a s) : RunS P call ops b (fun s' => ∀ k ∈ O, s'.get k = s0.get k) O af sf (i :: j :: l) a s := by
  simp only [pairOK, apartOK, Bool.and_eq_true, Bool.or_eq_true, Bool.not_eq_true'] at hp
  obtain ⟨⟨hap1, hap2⟩, hst⟩ := hp
  obtain ⟨p1, p2, p3⟩ := Oper.apart_spec hap1
  obtain ⟨o, x, s1, ho, h1, hs1, hr1, o', y, s2, ho', h2, hs2, hr2, hrest⟩ := h
  rw [hj] at ho
  cases ho
  rw [hi] at ho'
  cases ho'
  rw [stepV_put p1] at h2
  have rd : ∀ (o' : Oper) (dst : Option Tmp) (v : AV), (∀ d, dst = some d → d ∉ o'.looksAt ops) → readsAt (put a dst v) o'.op = readsAt a o'.op := by
    intro o' dst v hd
    unfold readsAt
    cases hop : o'.op <;> first | rfl | skip
    rename_i t z
    have : ev (put a dst v) z = ev a z := ev_put fun d hd' hz => hd d hd' (by
      subst hz
      exact List.mem_append_left _ (List.mem_filterMap.2 ⟨.tmp d, by simp [hop, Op.operands], rfl⟩))
    simp only [this]
  have freeEff : ∀ (p q : Nat) (op oq : Oper), ops[p]? = some op → ops[q]? = some oq → p ≠ q → waits b p q = false → waits b q p = false → isEff oq.op = true → freeAt ops b p = true := by
    intro p q op oq h1 h2 h3 h4 h5 h6
    unfold freeAt
    rw [List.any_eq_true]
    refine ⟨q, List.mem_range.2 (Array.getElem?_eq_some_iff.1 h2).1, ?_⟩
    simp [h4, h5, h2, h6, Ne.symm h3]
  rw [rd oi oj.dst x p1] at hr2
  by_cases hej : isEff oj.op = true
  · -- j changes the state, i doesn't
    have hei : isEff oi.op = false := by
      rcases hst with h | h
      · rw [hej] at h
        cases h
      · exact h
    obtain ⟨e1, k1⟩ := still_step hei h2
    subst e1
    have hfree := freeEff i j oi oj hi hj hne hw1 hw2 hej
    have hi' : stepV P call ops oi a s = some (y, s) := k1 s (fun k hk => by rw [hS k (hr2 hfree k hk), hs1 k (hr2 hfree k hk)])
    refine ⟨oi, y, s, hi, hi', hS, hr2, oj, x, s2, hj, by rw [stepV_put p3]; exact h1, hs1, ?_, ?_⟩
    · rw [rd oj oi.dst y p3]
      exact hr1
    · rw [put_comm a y x (fun d hd hd' => p2 d hd' hd)]
      exact hrest
  · have hej' : isEff oj.op = false := by simpa using hej
    obtain ⟨e1, k1⟩ := still_step hej' h1
    subst e1
    refine ⟨oi, y, s2, hi, h2, hs2, hr2, oj, x, s2, hj, ?_, hs2, ?_, ?_⟩
    · rw [stepV_put p3]
      by_cases hei : isEff oi.op = true
      · have hfree := freeEff j i oj oi hj hi (Ne.symm hne) hw2 hw1 hei
        exact k1 s2 (fun k hk => by rw [hs2 k (hr1 hfree k hk), hS k (hr1 hfree k hk)])
      · have hei' : isEff oi.op = false := by simpa using hei
        obtain ⟨e2, _⟩ := still_step hei' h2
        subst e2
        exact h1
    · rw [rd oj oi.dst y p3]
      exact hr1
    · rw [put_comm a y x (fun d hd hd' => p2 d hd' hd)]
      exact hrest
theorem front_run {b : List Nat} {s0 : St} {O : List Nat} {af : Fr} {sf : St} {i : Nat} {l2 : List Nat} {oi : Oper} (hi : ops[i]? = some oi) : ∀ (l1 : List Nat) (a : Fr) (s : St), (∀ k ∈ O, s.get k = s0.get k) → (∀ j ∈ l1, ∃ oj, ops[j]? = some oj ∧ pairOK ops oj oi = true ∧ waits b i j = false ∧ waits b j i = false ∧ i ≠ j) →
    RunS P call ops b (fun s' => ∀ k ∈ O, s'.get k = s0.get k) O af sf (l1 ++ i :: l2) a s → RunS P call ops b (fun s' => ∀ k ∈ O, s'.get k = s0.get k) O af sf (i :: (l1 ++ l2)) a s
  | [], a, s, _, _, h => h
  | j :: l1, a, s, hS, hc, h => by
    obtain ⟨oj, hj, hp, w1, w2, hne⟩ := hc j (by simp)
    refine swap_run hj hi hS hp w1 w2 hne ?_
    obtain ⟨o, x, s1, ho, h1, hs1, hr1, hrest⟩ := h
    exact ⟨o, x, s1, ho, h1, hs1, hr1, front_run hi l1 _ _ hs1 (fun j' hj' => hc j' (by simp [hj'])) hrest⟩

/-- Whatever comes up next, one end. -/
def AAll (P : Program) (call : Callee) (ops : Array Oper) (af : Fr) (sf : St) : Nat → Array Bool → Fr → St → Prop
  | 0, listed, a, s => Region.ready .any ops listed = [] ∧ a = af ∧ s = sf
  | fuel + 1, listed, a, s => (Region.ready .any ops listed = [] → a = af ∧ s = sf) ∧ ∀ i ∈ Region.ready .any ops listed, ∃ a1 s1, stepI P call ops i a s = some (a1, s1) ∧ AAll P call ops af sf fuel (listed.setIfInBounds i true) a1 s1

/-! ### What waits for what -/
theorem mask_spec (acc : List Nat) (j : Nat) : ∀ (es : List Edge) (s : Nat), (es.foldl (fun s e => if Region.binds .any e then s ||| 2 ^ e.on ||| acc.getD e.on 0 else s) s).testBit j = true → s.testBit j = true ∨ ∃ e ∈ es, Region.binds .any e = true ∧ (e.on = j ∨ (acc.getD e.on 0).testBit j = true)
  | [], s, h => .inl h
  | e :: es, s, h => by
    simp only [List.foldl_cons] at h
    rcases mask_spec acc j es _ h with h1 | ⟨e', m, h2⟩
    · by_cases hb : Region.binds .any e = true
      · rw [if_pos hb] at h1
        simp only [Nat.testBit_or, Bool.or_eq_true] at h1
        rcases h1 with (h1 | h1) | h1
        · exact .inl h1
        · refine .inr ⟨e, by simp, hb, .inl ?_⟩
          rw [Nat.testBit_two_pow] at h1
          simpa using h1
        · exact .inr ⟨e, by simp, hb, .inr h1⟩
      · rw [if_neg hb] at h1
        exact .inl h1
    · exact .inr ⟨e', by simp [m], h2⟩
theorem mask_self (acc : List Nat) (e : Edge) (hb : Region.binds .any e = true) : ∀ (es : List Edge) (s : Nat), (e ∈ es ∨ s.testBit e.on = true) → (es.foldl (fun s e => if Region.binds .any e then s ||| 2 ^ e.on ||| acc.getD e.on 0 else s) s).testBit e.on = true
  | [], s, h => by
    rcases h with h | h
    · cases h
    · exact h
  | e' :: es, s, h => by
    simp only [List.foldl_cons]
    refine mask_self acc e hb es _ ?_
    rcases h with h | h
    · rcases List.mem_cons.1 h with rfl | h
      · right
        rw [if_pos hb]
        simp [Nat.testBit_or, Nat.testBit_two_pow]
      · exact .inl h
    · right
      split
      · simp [Nat.testBit_or, h]
      · exact h
theorem ancs_spec : ∀ (l : List Oper) (acc : List Nat), (ancs l acc).take acc.length = acc ∧ ∀ (k : Nat) (o : Oper), l[k]? = some o → (ancs l acc)[acc.length + k]? = some (ancMask o ((ancs l acc).take (acc.length + k)))
  | [], acc => ⟨by simp [ancs], fun k o h => by simp at h⟩
  | o :: l, acc => by
    obtain ⟨h1, h2⟩ := ancs_spec l (acc ++ [ancMask o acc])
    simp only [List.length_append, List.length_cons, List.length_nil, Nat.zero_add] at h1 h2
    have h3 : (ancs l (acc ++ [ancMask o acc])).take acc.length = acc := by
      have := congrArg (List.take acc.length) h1
      rw [List.take_take] at this
      simpa using this
    refine ⟨h3, fun k o' hk => ?_⟩
    cases k with
    | zero =>
      simp only [List.getElem?_cons_zero, Option.some.injEq] at hk
      subst hk
      simp only [ancs, Nat.add_zero, h3]
      have := congrArg (·[acc.length]?) h1
      simp only [List.getElem?_take] at this
      rw [if_pos (by omega)] at this
      rw [this]
      simp
    | succ k =>
      simp only [List.getElem?_cons_succ] at hk
      have := h2 k o' hk
      rw [show acc.length + 1 + k = acc.length + (k + 1) by omega] at this
      exact this
theorem waits_spec {i j : Nat} (h : waits (ancs ops.toList []) i j = true) : ∃ o, ops[i]? = some o ∧ ∃ e ∈ o.after, Region.binds .any e = true ∧ (e.on = j ∨ e.on < i ∧ waits (ancs ops.toList []) e.on j = true) := by
  unfold waits at h ⊢
  obtain ⟨_, h2⟩ := ancs_spec ops.toList []
  simp only [List.length_nil, Nat.zero_add] at h2
  cases ho : ops[i]? with
  | none =>
    exfalso
    have hl : (ancs ops.toList []).length ≤ ops.size := by
      have : ∀ (l : List Oper) (acc : List Nat), (ancs l acc).length = acc.length + l.length := by
        intro l
        induction l with
        | nil => intro acc; simp [ancs]
        | cons o l ih => intro acc; simp [ancs, ih]; omega
      rw [this]
      simp
    have hge : ops.size ≤ i := by simpa using ho
    rw [List.getD, List.getElem?_eq_none (by omega)] at h
    simp at h
  | some o =>
    have h3 := h2 i o (by simpa using ho)
    rw [List.getD, h3] at h
    simp only [Option.getD_some, ancMask] at h
    rcases mask_spec _ j _ _ h with h4 | ⟨e, he, hb, h5⟩
    · simp at h4
    · refine ⟨o, rfl, e, by simpa using he, hb, ?_⟩
      rcases h5 with h5 | h5
      · exact .inl h5
      · right
        rw [List.getD, List.getElem?_take] at h5
        split at h5
        · rename_i hlt
          exact ⟨hlt, h5⟩
        · simp at h5
theorem waits_edge {i : Nat} {o : Oper} (ho : ops[i]? = some o) {e : Edge} (he : e ∈ o.after) (hb : Region.binds .any e = true) : waits (ancs ops.toList []) i e.on = true := by
  unfold waits
  obtain ⟨_, h2⟩ := ancs_spec ops.toList []
  simp only [List.length_nil, Nat.zero_add] at h2
  have h3 := h2 i o (by simpa using ho)
  rw [List.getD, h3]
  simp only [Option.getD_some, ancMask]
  exact mask_self _ e hb _ _ (.inl (by simpa using he))
end AM
end Go.Proofs.Ytlgdiloddphgnaa
