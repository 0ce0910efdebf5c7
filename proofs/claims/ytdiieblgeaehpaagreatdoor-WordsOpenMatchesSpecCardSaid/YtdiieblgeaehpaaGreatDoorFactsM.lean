/- Closed facts on the keys of maps, and on structs held against each other. -/
import Derived.Test.YtdiieblgeaehpaaGreatDoorFacts
import Derived.Test.YtdiieblgeaehpaaGreatDoorEngX
import Derived.KernelRfl
namespace Go.Proofs.YtdiieblgeaehpaaGreatDoor
open Go Go.E Go.RowKit
theorem eqg75 : Tryz.prog.eqGuardType Tryz.prog.depth 75 = false := by kernel_rfl
theorem eq75 (s m : List UInt8) (a b c e : Int) (w : World) : (Op.equalIn 10000 75 (.agg #[.string ⟨s.toArray⟩, .int .i64 a, .int .i64 b]) (.agg #[.string ⟨m.toArray⟩, .int .i64 c, .int .i64 e])).run Tryz.prog w = .ok (decide (s = m ∧ a = c ∧ b = e)) w :=
  eq_sii (by kernel_rfl) (by kernel_rfl) (by kernel_rfl : (Tryz.prog.fieldsOf 75).toList = [{ name := "Text", type := 9, offset := 0, embedded := false, tag := "", pkgPath := "", byteOffset := 0 }, { name := "From", type := 3, offset := 1, embedded := false, tag := "", pkgPath := "", byteOffset := 16 }, { name := "To", type := 3, offset := 2, embedded := false, tag := "", pkgPath := "", byteOffset := 24 }]) ⟨by decide, rfl⟩ ⟨by decide, rfl⟩ ⟨by decide, rfl⟩ Tryz.underlying9 Tryz.underlying3 Tryz.underlying3 s m a b c e w
theorem key9 : KeyOk Tryz.prog 9 encS := keyOk_str Tryz.underlying9
theorem key64 : KeyOk Tryz.prog 64 encII := keyOk_ii Tryz.underlying64 (fun _ _ _ _ => by kernel_rfl) eq64
end Go.Proofs.YtdiieblgeaehpaaGreatDoor
