/- Closed facts on the types of this seat. -/
import Derived.Test.YtidedcbaahiplaaEngG
import Derived.Test.YtidedcbaahiplaaRows
import Derived.KernelRfl
namespace Go.Proofs.Ytidedcbaahiplaa
open Go Go.E Go.RowKit
theorem mixed : Try.prog.follows .mixedOrders = true := by kernel_rfl
theorem zr3 : Zr Try.prog 3 (.int .i64 0) 1 8 := by unfold Zr; kernel_rfl
theorem zr4 : Zr Try.prog 4 (.bool false) 1 1 := by unfold Zr; kernel_rfl
theorem zr5 : Zr Try.prog 5 (.int .u8 0) 1 1 := by unfold Zr; kernel_rfl
theorem zr22 : Zr Try.prog 22 (.slice none 0 0) 1 24 := by unfold Zr; kernel_rfl
theorem zr23 : Zr Try.prog 23 (.slice none 0 0) 1 24 := by unfold Zr; kernel_rfl
theorem zr25 : Zr Try.prog 25 (.agg #[.int .i64 0, .int .i64 0]) 2 16 := by unfold Zr; kernel_rfl
theorem zr32 : Zr Try.prog 32 (.agg #[.int .i64 0, .slice none 0 0]) 2 32 := by unfold Zr; kernel_rfl
theorem zr41 : Zr Try.prog 41 (.slice none 0 0) 1 24 := by unfold Zr; kernel_rfl
theorem zr43 : Zr Try.prog 43 (.slice none 0 0) 1 24 := by unfold Zr; kernel_rfl
theorem zr75 : Zr Try.prog 75 (.nilFunc) 1 8 := by unfold Zr; kernel_rfl
theorem zr82 : Zr Try.prog 82 (.nilFunc) 1 8 := by unfold Zr; kernel_rfl
theorem bld25_z (w : World) : (Instr.build 25 #[]).run Try.prog w = .ok (.agg #[.int .i64 0, .int .i64 0]) w := by kernel_rfl
theorem bld25_0_1 (x0 : Int) (x1 : Int) (w : World) : (Instr.build 25 #[(0, .int .i64 x0), (1, .int .i64 x1)]).run Try.prog w = .ok (.agg #[.int .i64 x0, .int .i64 x1]) w := by kernel_rfl
theorem bld32_z (w : World) : (Instr.build 32 #[]).run Try.prog w = .ok (.agg #[.int .i64 0, .slice none 0 0]) w := by kernel_rfl
theorem bld32_0_1 (x0 : Int) (x1 : Value) (h1 : x1.oneCell' = true) (w : World) : (Instr.build 32 #[(0, .int .i64 x0), (1, x1)]).run Try.prog w = .ok (.agg #[.int .i64 x0, x1]) w := by cases x1 <;> first | (simp [Value.oneCell'] at h1; done) | kernel_rfl
theorem bld32_1 (x1 : Value) (h1 : x1.oneCell' = true) (w : World) : (Instr.build 32 #[(1, x1)]).run Try.prog w = .ok (.agg #[.int .i64 0, x1]) w := by cases x1 <;> first | (simp [Value.oneCell'] at h1; done) | kernel_rfl
theorem bsl22_0 (w : World) : (Instr.buildSlice 22 0 #[]).run Try.prog w = .ok (.slice (some ⟨w.heap.size, 0, none⟩) 0 0) (w.alloc (.cells #[] 5)) := by kernel_rfl
theorem bsl22_1 (x0 : Int) (w : World) : (Instr.buildSlice 22 1 #[(0, .int .u8 x0)]).run Try.prog w = .ok (.slice (some ⟨w.heap.size, 0, none⟩) 1 1) (w.alloc (.cells #[.int .u8 x0] 5)) := by kernel_rfl
theorem bsl23_1 (x0_0 x0_1 : Value) (w : World) : (Instr.buildSlice 23 1 #[(0, .agg #[x0_0, x0_1])]).run Try.prog w = .ok (.slice (some ⟨w.heap.size, 0, none⟩) 1 1) (w.alloc (.cells #[x0_0, x0_1] 32)) := by kernel_rfl
theorem bsl23_2 (x0_0 x0_1 : Value) (x1_0 x1_1 : Value) (w : World) : (Instr.buildSlice 23 2 #[(0, .agg #[x0_0, x0_1]), (1, .agg #[x1_0, x1_1])]).run Try.prog w = .ok (.slice (some ⟨w.heap.size, 0, none⟩) 2 2) (w.alloc (.cells #[x0_0, x0_1, x1_0, x1_1] 32)) := by kernel_rfl
theorem bsl23_3 (x0_0 x0_1 : Value) (x1_0 x1_1 : Value) (x2_0 x2_1 : Value) (w : World) : (Instr.buildSlice 23 3 #[(0, .agg #[x0_0, x0_1]), (1, .agg #[x1_0, x1_1]), (2, .agg #[x2_0, x2_1])]).run Try.prog w = .ok (.slice (some ⟨w.heap.size, 0, none⟩) 3 3) (w.alloc (.cells #[x0_0, x0_1, x1_0, x1_1, x2_0, x2_1] 32)) := by kernel_rfl
theorem bsl41_1 (x0 : Value) (h0 : x0.oneCell' = true) (w : World) : (Instr.buildSlice 41 1 #[(0, x0)]).run Try.prog w = .ok (.slice (some ⟨w.heap.size, 0, none⟩) 1 1) (w.alloc (.cells #[x0] 22)) := by cases x0 <;> first | (simp [Value.oneCell'] at h0; done) | kernel_rfl
theorem bsl43_0 (w : World) : (Instr.buildSlice 43 0 #[]).run Try.prog w = .ok (.slice (some ⟨w.heap.size, 0, none⟩) 0 0) (w.alloc (.cells #[] 3)) := by kernel_rfl
theorem bsl43_1 (x0 : Int) (w : World) : (Instr.buildSlice 43 1 #[(0, .int .i64 x0)]).run Try.prog w = .ok (.slice (some ⟨w.heap.size, 0, none⟩) 1 1) (w.alloc (.cells #[.int .i64 x0] 3)) := by kernel_rfl
theorem eqg25 : Try.prog.eqGuardType Try.prog.depth 25 = false := by kernel_rfl
theorem eq25 (a b c e : Int) (w : World) : (Op.equalIn 10000 25 (.agg #[.int .i64 a, .int .i64 b]) (.agg #[.int .i64 c, .int .i64 e])).run Try.prog w = .ok (decide (a = c ∧ b = e)) w :=
  eq_two (by kernel_rfl) (by kernel_rfl) (by kernel_rfl : (Try.prog.fieldsOf 25).toList = [{ name := "Code", type := 3, offset := 0, embedded := false, tag := "", pkgPath := "", byteOffset := 0 }, { name := "Index", type := 3, offset := 1, embedded := false, tag := "", pkgPath := "", byteOffset := 8 }]) ⟨by decide, rfl⟩ ⟨by decide, rfl⟩ Try.underlying3 Try.underlying3 a b c e w
end Go.Proofs.Ytidedcbaahiplaa
