/- Closed facts on the types of this seat. -/
import Derived.Test.YtdiieblgeaehpaaGreatDoorEngM
import Derived.Test.YtdiieblgeaehpaaGreatDoorEngR
import Derived.Test.YtdiieblgeaehpaaGreatDoorRows
import Derived.KernelRfl
namespace Go.Proofs.YtdiieblgeaehpaaGreatDoor
open Go Go.E Go.RowKit
theorem mixed : Tryz.prog.follows .mixedOrders = true := by kernel_rfl
theorem zr3 : Zr Tryz.prog 3 (.int .i64 0) 1 8 := by unfold Zr; kernel_rfl
theorem zr5 : Zr Tryz.prog 5 (.int .u8 0) 1 1 := by unfold Zr; kernel_rfl
theorem zr9 : Zr Tryz.prog 9 (.string .empty) 1 16 := by unfold Zr; kernel_rfl
theorem zr22 : Zr Tryz.prog 22 (.slice none 0 0) 1 24 := by unfold Zr; kernel_rfl
theorem zr23 : Zr Tryz.prog 23 (.slice none 0 0) 1 24 := by unfold Zr; kernel_rfl
theorem zr25 : Zr Tryz.prog 25 (.agg #[.int .i64 0, .slice none 0 0]) 2 32 := by unfold Zr; kernel_rfl
theorem zr27 : Zr Tryz.prog 27 (.agg #[.int .i64 0, .int .i64 0]) 2 16 := by unfold Zr; kernel_rfl
theorem zr33 : Zr Tryz.prog 33 (.slice none 0 0) 1 24 := by unfold Zr; kernel_rfl
theorem zr36 : Zr Tryz.prog 36 (.slice none 0 0) 1 24 := by unfold Zr; kernel_rfl
theorem zr40 : Zr Tryz.prog 40 (.slice none 0 0) 1 24 := by unfold Zr; kernel_rfl
theorem zr44 : Zr Tryz.prog 44 (.agg #[.string .empty, .slice none 0 0]) 2 40 := by unfold Zr; kernel_rfl
theorem zr47 : Zr Tryz.prog 47 (.slice none 0 0) 1 24 := by unfold Zr; kernel_rfl
theorem zr56 : Zr Tryz.prog 56 (.agg #[.slice none 0 0, .int .i64 0]) 2 32 := by unfold Zr; kernel_rfl
theorem zr58 : Zr Tryz.prog 58 (.agg #[.slice none 0 0, .int .i64 0, .int .i64 0]) 3 40 := by unfold Zr; kernel_rfl
theorem zr62 : Zr Tryz.prog 62 (.agg #[.string .empty, .slice none 0 0]) 2 40 := by unfold Zr; kernel_rfl
theorem zr64 : Zr Tryz.prog 64 (.agg #[.int .i64 0, .int .i64 0]) 2 16 := by unfold Zr; kernel_rfl
theorem zr66 : Zr Tryz.prog 66 (.agg #[]) 0 0 := by unfold Zr; kernel_rfl
theorem zr67 : Zr Tryz.prog 67 (.slice none 0 0) 1 24 := by unfold Zr; kernel_rfl
theorem zr71 : Zr Tryz.prog 71 (.slice none 0 0) 1 24 := by unfold Zr; kernel_rfl
theorem zr75 : Zr Tryz.prog 75 (.agg #[.string .empty, .int .i64 0, .int .i64 0]) 3 32 := by unfold Zr; kernel_rfl
theorem zr84 : Zr Tryz.prog 84 (.pointer none) 1 8 := by unfold Zr; kernel_rfl
theorem zr86 : Zr Tryz.prog 86 (.agg #[.pointer none, .slice none 0 0]) 2 32 := by unfold Zr; kernel_rfl
theorem zr98 : Zr Tryz.prog 98 (.map none) 1 8 := by unfold Zr; kernel_rfl
theorem zr100 : Zr Tryz.prog 100 (.slice none 0 0) 1 24 := by unfold Zr; kernel_rfl
theorem zr119 : Zr Tryz.prog 119 (.pointer none) 1 8 := by unfold Zr; kernel_rfl
theorem zr165 : Zr Tryz.prog 165 (.agg (Array.replicate 256 (.int .u8 0))) 256 256 := by unfold Zr; kernel_rfl
theorem zr167 : Zr Tryz.prog 167 (.agg #[.int .u8 0, .int .u8 0]) 2 2 := by unfold Zr; kernel_rfl
theorem zr168 : Zr Tryz.prog 168 (.agg #[.int .u8 0, .int .u8 0, .int .u8 0, .int .u8 0, .int .u8 0, .int .u8 0, .int .u8 0, .int .u8 0, .int .u8 0, .int .u8 0, .int .u8 0, .int .u8 0, .int .u8 0, .int .u8 0, .int .u8 0, .int .u8 0, .int .u8 0, .int .u8 0, .int .u8 0, .int .u8 0, .int .u8 0, .int .u8 0, .int .u8 0, .int .u8 0, .int .u8 0, .int .u8 0, .int .u8 0, .int .u8 0, .int .u8 0, .int .u8 0, .int .u8 0, .int .u8 0]) 32 32 := by unfold Zr; kernel_rfl
theorem zr169 : Zr Tryz.prog 169 (.int .u64 0) 1 8 := by unfold Zr; kernel_rfl
theorem bld25_z (w : World) : (Instr.build 25 #[]).run Tryz.prog w = .ok (.agg #[.int .i64 0, .slice none 0 0]) w := by kernel_rfl
theorem bld25_0 (x0 : Int) (w : World) : (Instr.build 25 #[(0, .int .i64 x0)]).run Tryz.prog w = .ok (.agg #[.int .i64 x0, .slice none 0 0]) w := by kernel_rfl
theorem bld27_z (w : World) : (Instr.build 27 #[]).run Tryz.prog w = .ok (.agg #[.int .i64 0, .int .i64 0]) w := by kernel_rfl
theorem bld27_0_1 (x0 : Int) (x1 : Int) (w : World) : (Instr.build 27 #[(0, .int .i64 x0), (1, .int .i64 x1)]).run Tryz.prog w = .ok (.agg #[.int .i64 x0, .int .i64 x1]) w := by kernel_rfl
theorem bld44_0 (x0 : Value) (h0 : x0.oneCell' = true) (w : World) : (Instr.build 44 #[(0, x0)]).run Tryz.prog w = .ok (.agg #[x0, .slice none 0 0]) w := by cases x0 <;> first | (simp [Value.oneCell'] at h0; done) | kernel_rfl
theorem bld56_z (w : World) : (Instr.build 56 #[]).run Tryz.prog w = .ok (.agg #[.slice none 0 0, .int .i64 0]) w := by kernel_rfl
theorem bld56_0_1 (x0 : Value) (h0 : x0.oneCell' = true) (x1 : Int) (w : World) : (Instr.build 56 #[(0, x0), (1, .int .i64 x1)]).run Tryz.prog w = .ok (.agg #[x0, .int .i64 x1]) w := by cases x0 <;> first | (simp [Value.oneCell'] at h0; done) | kernel_rfl
theorem bld58_0 (x0_0 x0_1 : Value) (w : World) : (Instr.build 58 #[(0, .agg #[x0_0, x0_1])]).run Tryz.prog w = .ok (.agg #[x0_0, x0_1, .int .i64 0]) w := by kernel_rfl
theorem bld62_0 (x0 : Value) (h0 : x0.oneCell' = true) (w : World) : (Instr.build 62 #[(0, x0)]).run Tryz.prog w = .ok (.agg #[x0, .slice none 0 0]) w := by cases x0 <;> first | (simp [Value.oneCell'] at h0; done) | kernel_rfl
theorem bld62_0_1 (x0 : Value) (h0 : x0.oneCell' = true) (x1 : Value) (h1 : x1.oneCell' = true) (w : World) : (Instr.build 62 #[(0, x0), (1, x1)]).run Tryz.prog w = .ok (.agg #[x0, x1]) w := by cases x0 <;> first | (simp [Value.oneCell'] at h0; done) | cases x1 <;> first | (simp [Value.oneCell'] at h1; done) | kernel_rfl
theorem bld64_z (w : World) : (Instr.build 64 #[]).run Tryz.prog w = .ok (.agg #[.int .i64 0, .int .i64 0]) w := by kernel_rfl
theorem bld64_0 (x0 : Int) (w : World) : (Instr.build 64 #[(0, .int .i64 x0)]).run Tryz.prog w = .ok (.agg #[.int .i64 x0, .int .i64 0]) w := by kernel_rfl
theorem bld64_0_1 (x0 : Int) (x1 : Int) (w : World) : (Instr.build 64 #[(0, .int .i64 x0), (1, .int .i64 x1)]).run Tryz.prog w = .ok (.agg #[.int .i64 x0, .int .i64 x1]) w := by kernel_rfl
theorem bld64_1 (x1 : Int) (w : World) : (Instr.build 64 #[(1, .int .i64 x1)]).run Tryz.prog w = .ok (.agg #[.int .i64 0, .int .i64 x1]) w := by kernel_rfl
theorem bld66_z (w : World) : (Instr.build 66 #[]).run Tryz.prog w = .ok (.agg #[]) w := by kernel_rfl
theorem bld75_0_1_2 (x0 : Value) (h0 : x0.oneCell' = true) (x1 : Int) (x2 : Int) (w : World) : (Instr.build 75 #[(0, x0), (1, .int .i64 x1), (2, .int .i64 x2)]).run Tryz.prog w = .ok (.agg #[x0, .int .i64 x1, .int .i64 x2]) w := by cases x0 <;> first | (simp [Value.oneCell'] at h0; done) | kernel_rfl
theorem bld75_1 (x1 : Int) (w : World) : (Instr.build 75 #[(1, .int .i64 x1)]).run Tryz.prog w = .ok (.agg #[.string .empty, .int .i64 x1, .int .i64 0]) w := by kernel_rfl
theorem bld167_0_1 (x0 : Int) (x1 : Int) (w : World) : (Instr.build 167 #[(0, .int .u8 x0), (1, .int .u8 x1)]).run Tryz.prog w = .ok (.agg #[.int .u8 x0, .int .u8 x1]) w := by kernel_rfl
theorem bsl22_0 (w : World) : (Instr.buildSlice 22 0 #[]).run Tryz.prog w = .ok (.slice (some ⟨w.heap.size, 0, none⟩) 0 0) (w.alloc (.cells #[] 5)) := by kernel_rfl
theorem bsl22_1 (x0 : Int) (w : World) : (Instr.buildSlice 22 1 #[(0, .int .u8 x0)]).run Tryz.prog w = .ok (.slice (some ⟨w.heap.size, 0, none⟩) 1 1) (w.alloc (.cells #[.int .u8 x0] 5)) := by kernel_rfl
theorem bsl22_3 (x0 : Int) (x1 : Int) (x2 : Int) (w : World) : (Instr.buildSlice 22 3 #[(0, .int .u8 x0), (1, .int .u8 x1), (2, .int .u8 x2)]).run Tryz.prog w = .ok (.slice (some ⟨w.heap.size, 0, none⟩) 3 3) (w.alloc (.cells #[.int .u8 x0, .int .u8 x1, .int .u8 x2] 5)) := by kernel_rfl
theorem bsl22_7 (x0 : Int) (x1 : Int) (x2 : Int) (x3 : Int) (x4 : Int) (x5 : Int) (x6 : Int) (w : World) : (Instr.buildSlice 22 7 #[(0, .int .u8 x0), (1, .int .u8 x1), (2, .int .u8 x2), (3, .int .u8 x3), (4, .int .u8 x4), (5, .int .u8 x5), (6, .int .u8 x6)]).run Tryz.prog w = .ok (.slice (some ⟨w.heap.size, 0, none⟩) 7 7) (w.alloc (.cells #[.int .u8 x0, .int .u8 x1, .int .u8 x2, .int .u8 x3, .int .u8 x4, .int .u8 x5, .int .u8 x6] 5)) := by kernel_rfl
theorem bsl22_11 (x0 : Int) (x1 : Int) (x2 : Int) (x3 : Int) (x4 : Int) (x5 : Int) (x6 : Int) (x7 : Int) (x8 : Int) (x9 : Int) (x10 : Int) (w : World) : (Instr.buildSlice 22 11 #[(0, .int .u8 x0), (1, .int .u8 x1), (2, .int .u8 x2), (3, .int .u8 x3), (4, .int .u8 x4), (5, .int .u8 x5), (6, .int .u8 x6), (7, .int .u8 x7), (8, .int .u8 x8), (9, .int .u8 x9), (10, .int .u8 x10)]).run Tryz.prog w = .ok (.slice (some ⟨w.heap.size, 0, none⟩) 11 11) (w.alloc (.cells #[.int .u8 x0, .int .u8 x1, .int .u8 x2, .int .u8 x3, .int .u8 x4, .int .u8 x5, .int .u8 x6, .int .u8 x7, .int .u8 x8, .int .u8 x9, .int .u8 x10] 5)) := by kernel_rfl
theorem bsl23_1 (x0_0 x0_1 : Value) (w : World) : (Instr.buildSlice 23 1 #[(0, .agg #[x0_0, x0_1])]).run Tryz.prog w = .ok (.slice (some ⟨w.heap.size, 0, none⟩) 1 1) (w.alloc (.cells #[x0_0, x0_1] 62)) := by kernel_rfl
theorem bsl33_1 (x0_0 x0_1 : Value) (w : World) : (Instr.buildSlice 33 1 #[(0, .agg #[x0_0, x0_1])]).run Tryz.prog w = .ok (.slice (some ⟨w.heap.size, 0, none⟩) 1 1) (w.alloc (.cells #[x0_0, x0_1] 44)) := by kernel_rfl
theorem bsl36_1 (x0 : Value) (h0 : x0.oneCell' = true) (w : World) : (Instr.buildSlice 36 1 #[(0, x0)]).run Tryz.prog w = .ok (.slice (some ⟨w.heap.size, 0, none⟩) 1 1) (w.alloc (.cells #[x0] 9)) := by cases x0 <;> first | (simp [Value.oneCell'] at h0; done) | kernel_rfl
theorem bsl36_2 (x0 : Value) (h0 : x0.oneCell' = true) (x1 : Value) (h1 : x1.oneCell' = true) (w : World) : (Instr.buildSlice 36 2 #[(0, x0), (1, x1)]).run Tryz.prog w = .ok (.slice (some ⟨w.heap.size, 0, none⟩) 2 2) (w.alloc (.cells #[x0, x1] 9)) := by cases x0 <;> first | (simp [Value.oneCell'] at h0; done) | cases x1 <;> first | (simp [Value.oneCell'] at h1; done) | kernel_rfl
theorem bsl40_0 (w : World) : (Instr.buildSlice 40 0 #[]).run Tryz.prog w = .ok (.slice (some ⟨w.heap.size, 0, none⟩) 0 0) (w.alloc (.cells #[] 64)) := by kernel_rfl
theorem bsl40_1 (x0_0 x0_1 : Value) (w : World) : (Instr.buildSlice 40 1 #[(0, .agg #[x0_0, x0_1])]).run Tryz.prog w = .ok (.slice (some ⟨w.heap.size, 0, none⟩) 1 1) (w.alloc (.cells #[x0_0, x0_1] 64)) := by kernel_rfl
theorem bsl40_2 (x0_0 x0_1 : Value) (x1_0 x1_1 : Value) (w : World) : (Instr.buildSlice 40 2 #[(0, .agg #[x0_0, x0_1]), (1, .agg #[x1_0, x1_1])]).run Tryz.prog w = .ok (.slice (some ⟨w.heap.size, 0, none⟩) 2 2) (w.alloc (.cells #[x0_0, x0_1, x1_0, x1_1] 64)) := by kernel_rfl
theorem bsl47_2 (x0 : Value) (h0 : x0.oneCell' = true) (x1 : Value) (h1 : x1.oneCell' = true) (w : World) : (Instr.buildSlice 47 2 #[(0, x0), (1, x1)]).run Tryz.prog w = .ok (.slice (some ⟨w.heap.size, 0, none⟩) 2 2) (w.alloc (.cells #[x0, x1] 22)) := by cases x0 <;> first | (simp [Value.oneCell'] at h0; done) | cases x1 <;> first | (simp [Value.oneCell'] at h1; done) | kernel_rfl
theorem bsl67_1 (x0_0 x0_1 x0_2 : Value) (w : World) : (Instr.buildSlice 67 1 #[(0, .agg #[x0_0, x0_1, x0_2])]).run Tryz.prog w = .ok (.slice (some ⟨w.heap.size, 0, none⟩) 1 1) (w.alloc (.cells #[x0_0, x0_1, x0_2] 75)) := by kernel_rfl
theorem bsl71_1 (x0 : Int) (w : World) : (Instr.buildSlice 71 1 #[(0, .int .i64 x0)]).run Tryz.prog w = .ok (.slice (some ⟨w.heap.size, 0, none⟩) 1 1) (w.alloc (.cells #[.int .i64 x0] 3)) := by kernel_rfl
theorem bsl71_2 (x0 : Int) (x1 : Int) (w : World) : (Instr.buildSlice 71 2 #[(0, .int .i64 x0), (1, .int .i64 x1)]).run Tryz.prog w = .ok (.slice (some ⟨w.heap.size, 0, none⟩) 2 2) (w.alloc (.cells #[.int .i64 x0, .int .i64 x1] 3)) := by kernel_rfl
theorem bsl100_2 (x0_0 x0_1 : Value) (x1_0 x1_1 : Value) (w : World) : (Instr.buildSlice 100 2 #[(0, .agg #[x0_0, x0_1]), (1, .agg #[x1_0, x1_1])]).run Tryz.prog w = .ok (.slice (some ⟨w.heap.size, 0, none⟩) 2 2) (w.alloc (.cells #[x0_0, x0_1, x1_0, x1_1] 25)) := by kernel_rfl
theorem eqg27 : Tryz.prog.eqGuardType Tryz.prog.depth 27 = false := by kernel_rfl
theorem eq27 (a b c e : Int) (w : World) : (Op.equalIn 10000 27 (.agg #[.int .i64 a, .int .i64 b]) (.agg #[.int .i64 c, .int .i64 e])).run Tryz.prog w = .ok (decide (a = c ∧ b = e)) w :=
  eq_two (by kernel_rfl) (by kernel_rfl) (by kernel_rfl : (Tryz.prog.fieldsOf 27).toList = [{ name := "Code", type := 3, offset := 0, embedded := false, tag := "", pkgPath := "", byteOffset := 0 }, { name := "Index", type := 3, offset := 1, embedded := false, tag := "", pkgPath := "", byteOffset := 8 }]) ⟨by decide, rfl⟩ ⟨by decide, rfl⟩ Tryz.underlying3 Tryz.underlying3 a b c e w
theorem eqg64 : Tryz.prog.eqGuardType Tryz.prog.depth 64 = false := by kernel_rfl
theorem eq64 (a b c e : Int) (w : World) : (Op.equalIn 10000 64 (.agg #[.int .i64 a, .int .i64 b]) (.agg #[.int .i64 c, .int .i64 e])).run Tryz.prog w = .ok (decide (a = c ∧ b = e)) w :=
  eq_two (by kernel_rfl) (by kernel_rfl) (by kernel_rfl : (Tryz.prog.fieldsOf 64).toList = [{ name := "Item", type := 3, offset := 0, embedded := false, tag := "", pkgPath := "", byteOffset := 0 }, { name := "Word", type := 3, offset := 1, embedded := false, tag := "", pkgPath := "", byteOffset := 8 }]) ⟨by decide, rfl⟩ ⟨by decide, rfl⟩ Tryz.underlying3 Tryz.underlying3 a b c e w
end Go.Proofs.YtdiieblgeaehpaaGreatDoor
