/- The facts on the seat's own types that appends ask for. -/
import Derived.Test.YtlgdiloddphgnaaOwn
import Derived.Test.YtlgdiloddphgnaaData
import Derived.Test.YtlgdiloddphgnaaRows
namespace Go.Proofs.Ytlgdiloddphgnaa
theorem F_rule : AppF Try.prog 39 46 (.agg #[.int .i64 0, .int .i64 0, .int .i64 0, .int .i64 0, .string ⟨#[]⟩]) RuleK.sz 48 := ⟨Try.underlying39, by kernel_rfl, by kernel_rfl, by decide, by decide⟩
theorem F_int : AppF Try.prog 40 3 (.int .i64 0) Kn.int.sz 8 := ⟨Try.underlying40, by kernel_rfl, by kernel_rfl, by decide, by decide⟩
theorem F_entry : AppF Try.prog 22 44 (.agg #[.int .i64 0, .int .i64 0, .int .i64 0, .int .i64 0, .int .i64 0, .int .i64 0, .int .i64 0, .slice none 0 0, .slice none 0 0]) EntryK.sz 104 := ⟨Try.underlying22, by kernel_rfl, by kernel_rfl, by decide, by decide⟩
theorem F_rule_ref : AppF Try.prog 108 150 (.agg #[.int .i64 0, .int .i64 0, .int .i64 0, .int .i64 0, .string ⟨#[]⟩]) RuleK.sz 48 := ⟨Try.underlying108, by kernel_rfl, by kernel_rfl, by decide, by decide⟩
theorem F_entry_ref : AppF Try.prog 33 112 (.agg #[.int .i64 0, .int .i64 0, .int .i64 0, .int .i64 0, .int .i64 0, .int .i64 0, .int .i64 0, .slice none 0 0, .slice none 0 0]) EntryK.sz 104 := ⟨Try.underlying33, by kernel_rfl, by kernel_rfl, by decide, by decide⟩
theorem flat_rule : Kn.Flat RuleK := fun h => h
theorem flat_int : Kn.Flat Kn.int := fun h => h
end Go.Proofs.Ytlgdiloddphgnaa
