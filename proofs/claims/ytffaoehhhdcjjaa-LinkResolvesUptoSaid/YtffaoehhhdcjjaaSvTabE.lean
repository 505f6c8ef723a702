/- This seat's plain structs as instances (made by a program of ours). -/
import Derived.Test.YtffaoehhhdcjjaaSvEq
import Derived.Test.YtffaoehhhdcjjaaRows
namespace Go.Proofs.Ytffaoehhhdcjjaa
open Go Go.Sv
instance : PlainS Try.prog 28 [.string, .string, .string, .string, .string, .bool, .bool, .bool, .bool] := ⟨_, Try.underlying28, by kernel_rfl, by kernel_rfl, by kernel_rfl⟩
instance : PlainS Try.prog 29 [.string, .string, .string, .string, .string, .bool, .bool, .bool, .bool] := ⟨_, Try.underlying29, by kernel_rfl, by kernel_rfl, by kernel_rfl⟩
instance : PlainS Try.prog 30 [.string, .string, .string, .string, .string, .bool, .bool, .bool, .bool] := ⟨_, Try.underlying30, by kernel_rfl, by kernel_rfl, by kernel_rfl⟩
instance : PlainS Try.prog 66 [.int .i32, .int .i64, .int .i64, .bool] := ⟨_, Try.underlying66, by kernel_rfl, by kernel_rfl, by kernel_rfl⟩
instance : PlainS Try.prog 67 [.int .i32, .int .i64, .int .i64, .bool] := ⟨_, Try.underlying67, by kernel_rfl, by kernel_rfl, by kernel_rfl⟩
end Go.Proofs.Ytffaoehhhdcjjaa
