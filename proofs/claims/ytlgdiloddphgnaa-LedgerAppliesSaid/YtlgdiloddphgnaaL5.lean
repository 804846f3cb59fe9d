/- PROVED: LedgerApplies of layer 13 (Rows.LedgerAppliesSaid): for every state and every record that it is handed the call returns true, and its arguments read as they did. No condition. -/
import Derived.Test.YtlgdiloddphgnaaRows
import Derived.WalkKit
import Derived.ProofKit
import Derived.OpenShut
import Derived.ShutString
import Derived.ChangeOld
import Derived.Below
import Derived.Test.YtlgdiloddphgnaaL5b
import Derived.Test.YtlgdiloddphgnaaAM15
namespace Go.Proofs.Ytlgdiloddphgnaa
open Go.ChangeShapes Go.WideShapes Go.ChangeAt Go.RowKit
set_option maxRecDepth 100000

theorem plain_state : AM.plainT Try.prog 10 24 = true := by kernel_rfl
theorem plain_record : AM.plainT Try.prog 10 57 = true := by kernel_rfl

theorem toList_arr {α : Type} {cs : Array α} {l : List α} (h : cs.toList = l) : cs = l.toArray := by
  subst h
  rfl
/-- A state that came in. -/
theorem open_state {H : Type} {enc : TypeId × Value → H} {W : World} {sp : Nat → Bool} {v : Value} {d : DataW H} {p : List MemPlace} {base : Nat} (k : DataW.Trod enc Try.prog W 0 sp true 24 v d p) (hv : Value.okWide Try.prog W .any base 24 v) :
    ∃ (s : StateD) (A : Option Addr) (n cap : Nat), v = .agg #[.int .i64 s.view, .int .i64 s.normal, .int .i64 s.commit, .int .i64 s.active, .slice A n cap] ∧ Sl EntryK (fun _ => True) W A n cap s.log := by
  obtain ⟨cs, rfl, _⟩ := okWide_struct Try.underlying24 hv
  obtain ⟨m, hm⟩ := k
  obtain ⟨xs, h1, h2⟩ := AM.open_shape 10 24 m _ _ plain_state hm
  obtain ⟨s, rfl⟩ := AM.shape_state h1
  obtain ⟨A, cap, he, hl⟩ := AM.cells_state h2
  exact ⟨s, A, _, cap, by rw [toList_arr (cs := cs) he], hl⟩
/-- A record that came in. -/
theorem open_record {H : Type} {enc : TypeId × Value → H} {W : World} {sp : Nat → Bool} {v : Value} {d : DataW H} {p : List MemPlace} {base : Nat} (k : DataW.Trod enc Try.prog W 0 sp true 57 v d p) (hv : Value.okWide Try.prog W .any base 57 v) :
    ∃ (s : RecordD) (A : Option Addr) (n cap : Nat), v = .agg #[.int .i64 s.kind, .int .i64 s.a, .int .i64 s.b, .slice A n cap] ∧ Sl EntryK (fun _ => True) W A n cap s.log := by
  obtain ⟨cs, rfl, _⟩ := okWide_struct Try.underlying57 hv
  obtain ⟨m, hm⟩ := k
  obtain ⟨xs, h1, h2⟩ := AM.open_shape 10 57 m _ _ plain_record hm
  obtain ⟨s, rfl⟩ := AM.shape_record h1
  obtain ⟨A, cap, he, hl⟩ := AM.cells_record h2
  exact ⟨s, A, _, cap, by rw [toList_arr (cs := cs) he], hl⟩

namespace ledgerApplies
theorem own : ownKnob Try.prog.godebug = none := by kernel_rfl
theorem laidOut : laidOutB Try.prog = true := by kernel_rfl

theorem lifted (os : Os) (started : os.Started) (H : Type) (enc : TypeId × Value → H) :
    ReturnsInHanded {} Try.checked os 5 .any (Rows.ledgerAppliesSpec.pre6 enc Try.prog Try.f5 Rows.ledgerAppliesRow.domain false) (Rows.ledgerAppliesSpec.post enc Try.prog Try.f5 false true false false) := by
  refine returnsInHanded_of_change (C := Try.checked) own started (by kernel_rfl) Try.func5
    (ChangeSpec.witness6 (enc := enc) (C := Try.checked) false ⟨#[], #[.agg #[.int .i64 0, .int .i64 0, .int .i64 0, .int .i64 0, .slice none 0 0], .agg #[.int .i64 0, .int .i64 0, .int .i64 0, .slice none 0 0]], []⟩ 8 (by kernel_rfl) (by kernel_rfl) (by kernel_rfl) (by kernel_rfl)) ?_
  intro W base args ds gs before hval0 hW hcnd _
  have hval : ∀ (j : Nat) t v, Try.f5.params[j]? = some t → args[j]? = some v → Value.okWide Try.prog W .any base t v := hval0
  have hW' := hW
  obtain ⟨p, q, hA0, hV, rfl, hfz, hnd⟩ := hW
  have hA : DataW.TrodAll enc Try.prog W 0 (fun _ => true) true Try.f5.params.toList args.toList ds p := hA0
  rw [Try.params5] at hA hval
  obtain ⟨v0, vs0, d0, ds0, p0, q0, hargs, rfl, rfl, h0, r0⟩ := trodAll_cons hA
  obtain ⟨v1, vs1, d1, ds1, p1, q1, rfl, rfl, rfl, h1, r1⟩ := trodAll_cons r0
  obtain ⟨rfl, rfl, rfl⟩ := trodAll_nil r1
  obtain rfl : args = #[v0, v1] := by cases args; simp_all
  obtain ⟨rfl, rfl⟩ := trodVars_none hV
  have k0 := h0
  have k1 := h1
  have lt0 : ∀ x ∈ p0, x.block < W.heap.size := by obtain ⟨m, hm⟩ := k0; exact DataW.trod_lt m _ _ _ hm
  have lt1 : ∀ x ∈ p1, x.block < W.heap.size := by obtain ⟨m, hm⟩ := k1; exact DataW.trod_lt m _ _ _ hm
  obtain ⟨s, A, n, cap, rfl, hs⟩ := open_state h0 (hval 0 24 v0 rfl rfl)
  obtain ⟨r, A3, n3, c3, rfl, hr⟩ := open_record h1 (hval 1 57 v1 rfl rfl)
  clear hA0 hval0
  refine (applies_any s r A3 n3 c3 hs hr).mono fun e W' ⟨he, bel⟩ => ?_
  subst he
  exact ⟨_, rfl, _, _, _, [], _, [], hW', trodAll_mk1 (shut_bool Try.underlying4 _), (trodAll_cons_mk (Below.trod laidOut (by kernel_rfl) (of_decide_eq_true (by kernel_rfl)) k0 bel lt0) (trodAll_cons_mk (Below.trod laidOut (by kernel_rfl) (of_decide_eq_true (by kernel_rfl)) k1 bel lt1) trodAll_mk0)), rfl, bel.frame _, fun h => by cases h⟩

theorem over : Rows.ledgerAppliesRow.holds Try.pinned (OpenSpec.ofChange Rows.ledgerAppliesSpec) :=
  OpenClaim.holds_of_wide 5 Try.f5 rfl rfl rfl rfl rfl rfl rfl ⟨rfl, rfl, rfl, rfl, rfl⟩ rfl rfl rfl rfl rfl (by kernel_rfl) Try.func5 (by kernel_rfl)
    (of_decide_eq_true (by kernel_rfl)) (by unfold Func.isWrapper; first | (rw [if_pos (by decide +kernel)]; kernel_rfl) | (rw [if_neg (by decide +kernel)]; exact ⟨rfl, rfl⟩))
    (fun os started H enc _ => lifted os started H enc)

theorem proved : Rows.LedgerAppliesSaid := over
end ledgerApplies
#print axioms ledgerApplies.proved
end Go.Proofs.Ytlgdiloddphgnaa
