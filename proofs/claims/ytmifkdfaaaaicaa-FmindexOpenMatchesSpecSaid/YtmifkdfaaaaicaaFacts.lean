/- Closed facts on the types of this seat. -/
import Derived.Test.YtmifkdfaaaaicaaEngM
import Derived.Test.YtmifkdfaaaaicaaCmp
import Derived.Test.YtmifkdfaaaaicaaRows
import Derived.KernelRfl
namespace Go.Proofs.Ytmifkdfaaaaicaa
open Go Go.E Go.RowKit
theorem mixed : Try.prog.follows .mixedOrders = true := by kernel_rfl
theorem zr3 : Zr Try.prog 3 (.int .i64 0) 1 8 := by unfold Zr; kernel_rfl
theorem zr4 : Zr Try.prog 4 (.bool false) 1 1 := by unfold Zr; kernel_rfl
theorem zr5 : Zr Try.prog 5 (.int .u8 0) 1 1 := by unfold Zr; kernel_rfl
theorem zr9 : Zr Try.prog 9 (.string .empty) 1 16 := by unfold Zr; kernel_rfl
theorem zr22 : Zr Try.prog 22 (.slice none 0 0) 1 24 := by unfold Zr; kernel_rfl
theorem zr23 : Zr Try.prog 23 (.slice none 0 0) 1 24 := by unfold Zr; kernel_rfl
theorem zr25 : Zr Try.prog 25 (.agg #[.int .i64 0, .int .i64 0]) 2 16 := by unfold Zr; kernel_rfl
theorem zr34 : Zr Try.prog 34 (.slice none 0 0) 1 24 := by unfold Zr; kernel_rfl
theorem zr48 : Zr Try.prog 48 (.agg #[.slice none 0 0]) 1 24 := by unfold Zr; kernel_rfl
theorem zr50 : Zr Try.prog 50 (.agg #[.slice none 0 0, .slice none 0 0, .slice none 0 0]) 3 72 := by unfold Zr; kernel_rfl
theorem zr73 : Zr Try.prog 73 (.slice none 0 0) 1 24 := by unfold Zr; kernel_rfl
theorem zr76 : Zr Try.prog 76 (.slice none 0 0) 1 24 := by unfold Zr; kernel_rfl
theorem zr101 : Zr Try.prog 101 (.int .u64 0) 1 8 := by unfold Zr; kernel_rfl
theorem bld25_z (w : World) : (Instr.build 25 #[]).run Try.prog w = .ok (.agg #[.int .i64 0, .int .i64 0]) w := by kernel_rfl
theorem bld25_0_1 (x0 : Int) (x1 : Int) (w : World) : (Instr.build 25 #[(0, .int .i64 x0), (1, .int .i64 x1)]).run Try.prog w = .ok (.agg #[.int .i64 x0, .int .i64 x1]) w := by kernel_rfl
theorem bld48_0 (x0 : Value) (h0 : x0.oneCell' = true) (w : World) : (Instr.build 48 #[(0, x0)]).run Try.prog w = .ok (.agg #[x0]) w := by cases x0 <;> first | (simp [Value.oneCell'] at h0; done) | kernel_rfl
theorem bld50_z (w : World) : (Instr.build 50 #[]).run Try.prog w = .ok (.agg #[.slice none 0 0, .slice none 0 0, .slice none 0 0]) w := by kernel_rfl
theorem bld50_0_1_2 (x0_0 : Value) (x1 : Value) (h1 : x1.oneCell' = true) (x2 : Value) (h2 : x2.oneCell' = true) (w : World) : (Instr.build 50 #[(0, .agg #[x0_0]), (1, x1), (2, x2)]).run Try.prog w = .ok (.agg #[x0_0, x1, x2]) w := by cases x1 <;> first | (simp [Value.oneCell'] at h1; done) | cases x2 <;> first | (simp [Value.oneCell'] at h2; done) | kernel_rfl
theorem bsl22_0 (w : World) : (Instr.buildSlice 22 0 #[]).run Try.prog w = .ok (.slice (some ⟨w.heap.size, 0, none⟩) 0 0) (w.alloc (.cells #[] 5)) := by kernel_rfl
theorem bsl22_1 (x0 : Int) (w : World) : (Instr.buildSlice 22 1 #[(0, .int .u8 x0)]).run Try.prog w = .ok (.slice (some ⟨w.heap.size, 0, none⟩) 1 1) (w.alloc (.cells #[.int .u8 x0] 5)) := by kernel_rfl
theorem bsl22_2 (x0 : Int) (x1 : Int) (w : World) : (Instr.buildSlice 22 2 #[(0, .int .u8 x0), (1, .int .u8 x1)]).run Try.prog w = .ok (.slice (some ⟨w.heap.size, 0, none⟩) 2 2) (w.alloc (.cells #[.int .u8 x0, .int .u8 x1] 5)) := by kernel_rfl
theorem bsl22_4 (x0 : Int) (x1 : Int) (x2 : Int) (x3 : Int) (w : World) : (Instr.buildSlice 22 4 #[(0, .int .u8 x0), (1, .int .u8 x1), (2, .int .u8 x2), (3, .int .u8 x3)]).run Try.prog w = .ok (.slice (some ⟨w.heap.size, 0, none⟩) 4 4) (w.alloc (.cells #[.int .u8 x0, .int .u8 x1, .int .u8 x2, .int .u8 x3] 5)) := by kernel_rfl
theorem bsl22_5 (x0 : Int) (x1 : Int) (x2 : Int) (x3 : Int) (x4 : Int) (w : World) : (Instr.buildSlice 22 5 #[(0, .int .u8 x0), (1, .int .u8 x1), (2, .int .u8 x2), (3, .int .u8 x3), (4, .int .u8 x4)]).run Try.prog w = .ok (.slice (some ⟨w.heap.size, 0, none⟩) 5 5) (w.alloc (.cells #[.int .u8 x0, .int .u8 x1, .int .u8 x2, .int .u8 x3, .int .u8 x4] 5)) := by kernel_rfl
theorem bsl22_8 (x0 : Int) (x1 : Int) (x2 : Int) (x3 : Int) (x4 : Int) (x5 : Int) (x6 : Int) (x7 : Int) (w : World) : (Instr.buildSlice 22 8 #[(0, .int .u8 x0), (1, .int .u8 x1), (2, .int .u8 x2), (3, .int .u8 x3), (4, .int .u8 x4), (5, .int .u8 x5), (6, .int .u8 x6), (7, .int .u8 x7)]).run Try.prog w = .ok (.slice (some ⟨w.heap.size, 0, none⟩) 8 8) (w.alloc (.cells #[.int .u8 x0, .int .u8 x1, .int .u8 x2, .int .u8 x3, .int .u8 x4, .int .u8 x5, .int .u8 x6, .int .u8 x7] 5)) := by kernel_rfl
theorem bsl23_0 (w : World) : (Instr.buildSlice 23 0 #[]).run Try.prog w = .ok (.slice (some ⟨w.heap.size, 0, none⟩) 0 0) (w.alloc (.cells #[] 3)) := by kernel_rfl
theorem bsl23_1 (x0 : Int) (w : World) : (Instr.buildSlice 23 1 #[(0, .int .i64 x0)]).run Try.prog w = .ok (.slice (some ⟨w.heap.size, 0, none⟩) 1 1) (w.alloc (.cells #[.int .i64 x0] 3)) := by kernel_rfl
theorem bsl23_2 (x0 : Int) (x1 : Int) (w : World) : (Instr.buildSlice 23 2 #[(0, .int .i64 x0), (1, .int .i64 x1)]).run Try.prog w = .ok (.slice (some ⟨w.heap.size, 0, none⟩) 2 2) (w.alloc (.cells #[.int .i64 x0, .int .i64 x1] 3)) := by kernel_rfl
theorem bsl23_4 (x0 : Int) (x1 : Int) (x2 : Int) (x3 : Int) (w : World) : (Instr.buildSlice 23 4 #[(0, .int .i64 x0), (1, .int .i64 x1), (2, .int .i64 x2), (3, .int .i64 x3)]).run Try.prog w = .ok (.slice (some ⟨w.heap.size, 0, none⟩) 4 4) (w.alloc (.cells #[.int .i64 x0, .int .i64 x1, .int .i64 x2, .int .i64 x3] 3)) := by kernel_rfl
theorem bsl73_1 (x0 : Value) (h0 : x0.oneCell' = true) (w : World) : (Instr.buildSlice 73 1 #[(0, x0)]).run Try.prog w = .ok (.slice (some ⟨w.heap.size, 0, none⟩) 1 1) (w.alloc (.cells #[x0] 9)) := by cases x0 <;> first | (simp [Value.oneCell'] at h0; done) | kernel_rfl
theorem bsl76_2 (x0 : Value) (h0 : x0.oneCell' = true) (x1 : Value) (h1 : x1.oneCell' = true) (w : World) : (Instr.buildSlice 76 2 #[(0, x0), (1, x1)]).run Try.prog w = .ok (.slice (some ⟨w.heap.size, 0, none⟩) 2 2) (w.alloc (.cells #[x0, x1] 23)) := by cases x0 <;> first | (simp [Value.oneCell'] at h0; done) | cases x1 <;> first | (simp [Value.oneCell'] at h1; done) | kernel_rfl
theorem eqg25 : Try.prog.eqGuardType Try.prog.depth 25 = false := by kernel_rfl
theorem eq25 (a b c e : Int) (w : World) : (Op.equalIn 10000 25 (.agg #[.int .i64 a, .int .i64 b]) (.agg #[.int .i64 c, .int .i64 e])).run Try.prog w = .ok (decide (a = c ∧ b = e)) w :=
  eq_two (by kernel_rfl) (by kernel_rfl) (by kernel_rfl : (Try.prog.fieldsOf 25).toList = [{ name := "Code", type := 3, offset := 0, embedded := false, tag := "", pkgPath := "", byteOffset := 0 }, { name := "Index", type := 3, offset := 1, embedded := false, tag := "", pkgPath := "", byteOffset := 8 }]) ⟨by decide, rfl⟩ ⟨by decide, rfl⟩ Try.underlying3 Try.underlying3 a b c e w
end Go.Proofs.Ytmifkdfaaaaicaa
