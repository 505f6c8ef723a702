/- This seat's plain structs as instances (made by a program of ours). -/
import Derived.Test.YtfomfplddncakaaSvEq
import Derived.Test.YtfomfplddncakaaRows
namespace Go.Proofs.Ytfomfplddncakaa
open Go Go.Sv
instance : PlainS Try.prog 26 [.int .i64, .int .i64, .int .i64] := ⟨_, Try.underlying26, by kernel_rfl, by kernel_rfl, by kernel_rfl⟩
instance : PlainS Try.prog 27 [.int .i64, .int .i64, .int .i64] := ⟨_, Try.underlying27, by kernel_rfl, by kernel_rfl, by kernel_rfl⟩
instance : PlainS Try.prog 41 [.string, .string] := ⟨_, Try.underlying41, by kernel_rfl, by kernel_rfl, by kernel_rfl⟩
instance : PlainS Try.prog 42 [.string, .string] := ⟨_, Try.underlying42, by kernel_rfl, by kernel_rfl, by kernel_rfl⟩
instance : PlainS Try.prog 87 [.string] := ⟨_, Try.underlying87, by kernel_rfl, by kernel_rfl, by kernel_rfl⟩
instance : PlainS Try.prog 88 [.string] := ⟨_, Try.underlying88, by kernel_rfl, by kernel_rfl, by kernel_rfl⟩
instance : PlainS Try.prog 95 [.int .i32, .int .i64, .int .i64, .bool] := ⟨_, Try.underlying95, by kernel_rfl, by kernel_rfl, by kernel_rfl⟩
instance : PlainS Try.prog 96 [.int .i32, .int .i64, .int .i64, .bool] := ⟨_, Try.underlying96, by kernel_rfl, by kernel_rfl, by kernel_rfl⟩
end Go.Proofs.Ytfomfplddncakaa
