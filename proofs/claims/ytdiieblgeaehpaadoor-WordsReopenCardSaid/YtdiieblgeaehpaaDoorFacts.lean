/- Closed facts on the types of this seat. -/
import Derived.Test.YtdiieblgeaehpaaDoorEngM
import Derived.Test.YtdiieblgeaehpaaDoorEngR
import Derived.Test.YtdiieblgeaehpaaDoorRows
import Derived.KernelRfl
namespace Go.Proofs.YtdiieblgeaehpaaDoor
open Go Go.E Go.RowKit
theorem mixed : Tryd.prog.follows .mixedOrders = true := by kernel_rfl
theorem zr3 : Zr Tryd.prog 3 (.int .i64 0) 1 8 := by unfold Zr; kernel_rfl
theorem zr5 : Zr Tryd.prog 5 (.int .u8 0) 1 1 := by unfold Zr; kernel_rfl
theorem zr9 : Zr Tryd.prog 9 (.string .empty) 1 16 := by unfold Zr; kernel_rfl
theorem zr22 : Zr Tryd.prog 22 (.slice none 0 0) 1 24 := by unfold Zr; kernel_rfl
theorem zr23 : Zr Tryd.prog 23 (.slice none 0 0) 1 24 := by unfold Zr; kernel_rfl
theorem zr25 : Zr Tryd.prog 25 (.agg #[.int .i64 0, .int .i64 0]) 2 16 := by unfold Zr; kernel_rfl
theorem zr33 : Zr Tryd.prog 33 (.agg #[.string .empty, .int .i64 0, .int .i64 0]) 3 32 := by unfold Zr; kernel_rfl
theorem zr37 : Zr Tryd.prog 37 (.slice none 0 0) 1 24 := by unfold Zr; kernel_rfl
theorem zr38 : Zr Tryd.prog 38 (.slice none 0 0) 1 24 := by unfold Zr; kernel_rfl
theorem zr39 : Zr Tryd.prog 39 (.slice none 0 0) 1 24 := by unfold Zr; kernel_rfl
theorem zr41 : Zr Tryd.prog 41 (.agg #[.int .i64 0, .slice none 0 0]) 2 32 := by unfold Zr; kernel_rfl
theorem zr45 : Zr Tryd.prog 45 (.slice none 0 0) 1 24 := by unfold Zr; kernel_rfl
theorem zr51 : Zr Tryd.prog 51 (.slice none 0 0) 1 24 := by unfold Zr; kernel_rfl
theorem zr72 : Zr Tryd.prog 72 (.agg #[.int .i64 0, .int .i64 0]) 2 16 := by unfold Zr; kernel_rfl
theorem zr75 : Zr Tryd.prog 75 (.map none) 1 8 := by unfold Zr; kernel_rfl
theorem zr85 : Zr Tryd.prog 85 (.agg #[.slice none 0 0, .int .i64 0]) 2 32 := by unfold Zr; kernel_rfl
theorem zr87 : Zr Tryd.prog 87 (.agg #[.slice none 0 0, .int .i64 0, .int .i64 0]) 3 40 := by unfold Zr; kernel_rfl
theorem zr91 : Zr Tryd.prog 91 (.agg #[.string .empty, .slice none 0 0]) 2 40 := by unfold Zr; kernel_rfl
theorem zr93 : Zr Tryd.prog 93 (.agg #[]) 0 0 := by unfold Zr; kernel_rfl
theorem zr94 : Zr Tryd.prog 94 (.pointer none) 1 8 := by unfold Zr; kernel_rfl
theorem zr96 : Zr Tryd.prog 96 (.agg #[.pointer none, .slice none 0 0]) 2 32 := by unfold Zr; kernel_rfl
theorem zr127 : Zr Tryd.prog 127 (.pointer none) 1 8 := by unfold Zr; kernel_rfl
theorem zr145 : Zr Tryd.prog 145 (.agg (Array.replicate 256 (.int .u8 0))) 256 256 := by unfold Zr; kernel_rfl
theorem zr147 : Zr Tryd.prog 147 (.agg #[.int .u8 0, .int .u8 0]) 2 2 := by unfold Zr; kernel_rfl
theorem zr148 : Zr Tryd.prog 148 (.agg #[.int .u8 0, .int .u8 0, .int .u8 0, .int .u8 0, .int .u8 0, .int .u8 0, .int .u8 0, .int .u8 0, .int .u8 0, .int .u8 0, .int .u8 0, .int .u8 0, .int .u8 0, .int .u8 0, .int .u8 0, .int .u8 0, .int .u8 0, .int .u8 0, .int .u8 0, .int .u8 0, .int .u8 0, .int .u8 0, .int .u8 0, .int .u8 0, .int .u8 0, .int .u8 0, .int .u8 0, .int .u8 0, .int .u8 0, .int .u8 0, .int .u8 0, .int .u8 0]) 32 32 := by unfold Zr; kernel_rfl
theorem zr157 : Zr Tryd.prog 157 (.int .u64 0) 1 8 := by unfold Zr; kernel_rfl
theorem bld25_z (w : World) : (Instr.build 25 #[]).run Tryd.prog w = .ok (.agg #[.int .i64 0, .int .i64 0]) w := by kernel_rfl
theorem bld25_0_1 (x0 : Int) (x1 : Int) (w : World) : (Instr.build 25 #[(0, .int .i64 x0), (1, .int .i64 x1)]).run Tryd.prog w = .ok (.agg #[.int .i64 x0, .int .i64 x1]) w := by kernel_rfl
theorem bld33_0_1_2 (x0 : Value) (h0 : x0.oneCell' = true) (x1 : Int) (x2 : Int) (w : World) : (Instr.build 33 #[(0, x0), (1, .int .i64 x1), (2, .int .i64 x2)]).run Tryd.prog w = .ok (.agg #[x0, .int .i64 x1, .int .i64 x2]) w := by cases x0 <;> first | (simp [Value.oneCell'] at h0; done) | kernel_rfl
theorem bld33_1 (x1 : Int) (w : World) : (Instr.build 33 #[(1, .int .i64 x1)]).run Tryd.prog w = .ok (.agg #[.string .empty, .int .i64 x1, .int .i64 0]) w := by kernel_rfl
theorem bld41_z (w : World) : (Instr.build 41 #[]).run Tryd.prog w = .ok (.agg #[.int .i64 0, .slice none 0 0]) w := by kernel_rfl
theorem bld41_0 (x0 : Int) (w : World) : (Instr.build 41 #[(0, .int .i64 x0)]).run Tryd.prog w = .ok (.agg #[.int .i64 x0, .slice none 0 0]) w := by kernel_rfl
theorem bld72_z (w : World) : (Instr.build 72 #[]).run Tryd.prog w = .ok (.agg #[.int .i64 0, .int .i64 0]) w := by kernel_rfl
theorem bld72_0 (x0 : Int) (w : World) : (Instr.build 72 #[(0, .int .i64 x0)]).run Tryd.prog w = .ok (.agg #[.int .i64 x0, .int .i64 0]) w := by kernel_rfl
theorem bld72_0_1 (x0 : Int) (x1 : Int) (w : World) : (Instr.build 72 #[(0, .int .i64 x0), (1, .int .i64 x1)]).run Tryd.prog w = .ok (.agg #[.int .i64 x0, .int .i64 x1]) w := by kernel_rfl
theorem bld72_1 (x1 : Int) (w : World) : (Instr.build 72 #[(1, .int .i64 x1)]).run Tryd.prog w = .ok (.agg #[.int .i64 0, .int .i64 x1]) w := by kernel_rfl
theorem bld85_z (w : World) : (Instr.build 85 #[]).run Tryd.prog w = .ok (.agg #[.slice none 0 0, .int .i64 0]) w := by kernel_rfl
theorem bld85_0_1 (x0 : Value) (h0 : x0.oneCell' = true) (x1 : Int) (w : World) : (Instr.build 85 #[(0, x0), (1, .int .i64 x1)]).run Tryd.prog w = .ok (.agg #[x0, .int .i64 x1]) w := by cases x0 <;> first | (simp [Value.oneCell'] at h0; done) | kernel_rfl
theorem bld87_0 (x0_0 x0_1 : Value) (w : World) : (Instr.build 87 #[(0, .agg #[x0_0, x0_1])]).run Tryd.prog w = .ok (.agg #[x0_0, x0_1, .int .i64 0]) w := by kernel_rfl
theorem bld91_0 (x0 : Value) (h0 : x0.oneCell' = true) (w : World) : (Instr.build 91 #[(0, x0)]).run Tryd.prog w = .ok (.agg #[x0, .slice none 0 0]) w := by cases x0 <;> first | (simp [Value.oneCell'] at h0; done) | kernel_rfl
theorem bld91_0_1 (x0 : Value) (h0 : x0.oneCell' = true) (x1 : Value) (h1 : x1.oneCell' = true) (w : World) : (Instr.build 91 #[(0, x0), (1, x1)]).run Tryd.prog w = .ok (.agg #[x0, x1]) w := by cases x0 <;> first | (simp [Value.oneCell'] at h0; done) | cases x1 <;> first | (simp [Value.oneCell'] at h1; done) | kernel_rfl
theorem bld93_z (w : World) : (Instr.build 93 #[]).run Tryd.prog w = .ok (.agg #[]) w := by kernel_rfl
theorem bld147_0_1 (x0 : Int) (x1 : Int) (w : World) : (Instr.build 147 #[(0, .int .u8 x0), (1, .int .u8 x1)]).run Tryd.prog w = .ok (.agg #[.int .u8 x0, .int .u8 x1]) w := by kernel_rfl
theorem bsl22_0 (w : World) : (Instr.buildSlice 22 0 #[]).run Tryd.prog w = .ok (.slice (some ⟨w.heap.size, 0, none⟩) 0 0) (w.alloc (.cells #[] 5)) := by kernel_rfl
theorem bsl22_1 (x0 : Int) (w : World) : (Instr.buildSlice 22 1 #[(0, .int .u8 x0)]).run Tryd.prog w = .ok (.slice (some ⟨w.heap.size, 0, none⟩) 1 1) (w.alloc (.cells #[.int .u8 x0] 5)) := by kernel_rfl
theorem bsl22_3 (x0 : Int) (x1 : Int) (x2 : Int) (w : World) : (Instr.buildSlice 22 3 #[(0, .int .u8 x0), (1, .int .u8 x1), (2, .int .u8 x2)]).run Tryd.prog w = .ok (.slice (some ⟨w.heap.size, 0, none⟩) 3 3) (w.alloc (.cells #[.int .u8 x0, .int .u8 x1, .int .u8 x2] 5)) := by kernel_rfl
theorem bsl22_7 (x0 : Int) (x1 : Int) (x2 : Int) (x3 : Int) (x4 : Int) (x5 : Int) (x6 : Int) (w : World) : (Instr.buildSlice 22 7 #[(0, .int .u8 x0), (1, .int .u8 x1), (2, .int .u8 x2), (3, .int .u8 x3), (4, .int .u8 x4), (5, .int .u8 x5), (6, .int .u8 x6)]).run Tryd.prog w = .ok (.slice (some ⟨w.heap.size, 0, none⟩) 7 7) (w.alloc (.cells #[.int .u8 x0, .int .u8 x1, .int .u8 x2, .int .u8 x3, .int .u8 x4, .int .u8 x5, .int .u8 x6] 5)) := by kernel_rfl
theorem bsl22_11 (x0 : Int) (x1 : Int) (x2 : Int) (x3 : Int) (x4 : Int) (x5 : Int) (x6 : Int) (x7 : Int) (x8 : Int) (x9 : Int) (x10 : Int) (w : World) : (Instr.buildSlice 22 11 #[(0, .int .u8 x0), (1, .int .u8 x1), (2, .int .u8 x2), (3, .int .u8 x3), (4, .int .u8 x4), (5, .int .u8 x5), (6, .int .u8 x6), (7, .int .u8 x7), (8, .int .u8 x8), (9, .int .u8 x9), (10, .int .u8 x10)]).run Tryd.prog w = .ok (.slice (some ⟨w.heap.size, 0, none⟩) 11 11) (w.alloc (.cells #[.int .u8 x0, .int .u8 x1, .int .u8 x2, .int .u8 x3, .int .u8 x4, .int .u8 x5, .int .u8 x6, .int .u8 x7, .int .u8 x8, .int .u8 x9, .int .u8 x10] 5)) := by kernel_rfl
theorem bsl23_1 (x0_0 x0_1 x0_2 : Value) (w : World) : (Instr.buildSlice 23 1 #[(0, .agg #[x0_0, x0_1, x0_2])]).run Tryd.prog w = .ok (.slice (some ⟨w.heap.size, 0, none⟩) 1 1) (w.alloc (.cells #[x0_0, x0_1, x0_2] 33)) := by kernel_rfl
theorem bsl37_2 (x0 : Value) (h0 : x0.oneCell' = true) (x1 : Value) (h1 : x1.oneCell' = true) (w : World) : (Instr.buildSlice 37 2 #[(0, x0), (1, x1)]).run Tryd.prog w = .ok (.slice (some ⟨w.heap.size, 0, none⟩) 2 2) (w.alloc (.cells #[x0, x1] 22)) := by cases x0 <;> first | (simp [Value.oneCell'] at h0; done) | cases x1 <;> first | (simp [Value.oneCell'] at h1; done) | kernel_rfl
theorem bsl38_1 (x0 : Value) (h0 : x0.oneCell' = true) (w : World) : (Instr.buildSlice 38 1 #[(0, x0)]).run Tryd.prog w = .ok (.slice (some ⟨w.heap.size, 0, none⟩) 1 1) (w.alloc (.cells #[x0] 9)) := by cases x0 <;> first | (simp [Value.oneCell'] at h0; done) | kernel_rfl
theorem bsl38_2 (x0 : Value) (h0 : x0.oneCell' = true) (x1 : Value) (h1 : x1.oneCell' = true) (w : World) : (Instr.buildSlice 38 2 #[(0, x0), (1, x1)]).run Tryd.prog w = .ok (.slice (some ⟨w.heap.size, 0, none⟩) 2 2) (w.alloc (.cells #[x0, x1] 9)) := by cases x0 <;> first | (simp [Value.oneCell'] at h0; done) | cases x1 <;> first | (simp [Value.oneCell'] at h1; done) | kernel_rfl
theorem bsl39_1 (x0_0 x0_1 : Value) (w : World) : (Instr.buildSlice 39 1 #[(0, .agg #[x0_0, x0_1])]).run Tryd.prog w = .ok (.slice (some ⟨w.heap.size, 0, none⟩) 1 1) (w.alloc (.cells #[x0_0, x0_1] 91)) := by kernel_rfl
theorem bsl45_0 (w : World) : (Instr.buildSlice 45 0 #[]).run Tryd.prog w = .ok (.slice (some ⟨w.heap.size, 0, none⟩) 0 0) (w.alloc (.cells #[] 72)) := by kernel_rfl
theorem bsl45_1 (x0_0 x0_1 : Value) (w : World) : (Instr.buildSlice 45 1 #[(0, .agg #[x0_0, x0_1])]).run Tryd.prog w = .ok (.slice (some ⟨w.heap.size, 0, none⟩) 1 1) (w.alloc (.cells #[x0_0, x0_1] 72)) := by kernel_rfl
theorem bsl45_2 (x0_0 x0_1 : Value) (x1_0 x1_1 : Value) (w : World) : (Instr.buildSlice 45 2 #[(0, .agg #[x0_0, x0_1]), (1, .agg #[x1_0, x1_1])]).run Tryd.prog w = .ok (.slice (some ⟨w.heap.size, 0, none⟩) 2 2) (w.alloc (.cells #[x0_0, x0_1, x1_0, x1_1] 72)) := by kernel_rfl
theorem bsl51_1 (x0 : Int) (w : World) : (Instr.buildSlice 51 1 #[(0, .int .i64 x0)]).run Tryd.prog w = .ok (.slice (some ⟨w.heap.size, 0, none⟩) 1 1) (w.alloc (.cells #[.int .i64 x0] 3)) := by kernel_rfl
theorem eqg25 : Tryd.prog.eqGuardType Tryd.prog.depth 25 = false := by kernel_rfl
theorem eq25 (a b c e : Int) (w : World) : (Op.equalIn 10000 25 (.agg #[.int .i64 a, .int .i64 b]) (.agg #[.int .i64 c, .int .i64 e])).run Tryd.prog w = .ok (decide (a = c ∧ b = e)) w :=
  eq_two (by kernel_rfl) (by kernel_rfl) (by kernel_rfl : (Tryd.prog.fieldsOf 25).toList = [{ name := "Code", type := 3, offset := 0, embedded := false, tag := "", pkgPath := "", byteOffset := 0 }, { name := "Index", type := 3, offset := 1, embedded := false, tag := "", pkgPath := "", byteOffset := 8 }]) ⟨by decide, rfl⟩ ⟨by decide, rfl⟩ Tryd.underlying3 Tryd.underlying3 a b c e w
theorem eqg72 : Tryd.prog.eqGuardType Tryd.prog.depth 72 = false := by kernel_rfl
theorem eq72 (a b c e : Int) (w : World) : (Op.equalIn 10000 72 (.agg #[.int .i64 a, .int .i64 b]) (.agg #[.int .i64 c, .int .i64 e])).run Tryd.prog w = .ok (decide (a = c ∧ b = e)) w :=
  eq_two (by kernel_rfl) (by kernel_rfl) (by kernel_rfl : (Tryd.prog.fieldsOf 72).toList = [{ name := "Item", type := 3, offset := 0, embedded := false, tag := "", pkgPath := "", byteOffset := 0 }, { name := "Word", type := 3, offset := 1, embedded := false, tag := "", pkgPath := "", byteOffset := 8 }]) ⟨by decide, rfl⟩ ⟨by decide, rfl⟩ Tryd.underlying3 Tryd.underlying3 a b c e w
end Go.Proofs.YtdiieblgeaehpaaDoor
