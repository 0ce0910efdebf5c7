/- Closed facts on the keys of maps, and on structs held against each other. -/
import Derived.Test.YtdiieblgeaehpaaDoorFacts
import Derived.Test.YtdiieblgeaehpaaDoorEngX
import Derived.KernelRfl
namespace Go.Proofs.YtdiieblgeaehpaaDoor
open Go Go.E Go.RowKit
theorem eqg33 : Tryd.prog.eqGuardType Tryd.prog.depth 33 = false := by kernel_rfl
theorem eq33 (s m : List UInt8) (a b c e : Int) (w : World) : (Op.equalIn 10000 33 (.agg #[.string ⟨s.toArray⟩, .int .i64 a, .int .i64 b]) (.agg #[.string ⟨m.toArray⟩, .int .i64 c, .int .i64 e])).run Tryd.prog w = .ok (decide (s = m ∧ a = c ∧ b = e)) w :=
  eq_sii (by kernel_rfl) (by kernel_rfl) (by kernel_rfl : (Tryd.prog.fieldsOf 33).toList = [{ name := "Text", type := 9, offset := 0, embedded := false, tag := "", pkgPath := "", byteOffset := 0 }, { name := "From", type := 3, offset := 1, embedded := false, tag := "", pkgPath := "", byteOffset := 16 }, { name := "To", type := 3, offset := 2, embedded := false, tag := "", pkgPath := "", byteOffset := 24 }]) ⟨by decide, rfl⟩ ⟨by decide, rfl⟩ ⟨by decide, rfl⟩ Tryd.underlying9 Tryd.underlying3 Tryd.underlying3 s m a b c e w
theorem key9 : KeyOk Tryd.prog 9 encS := keyOk_str Tryd.underlying9
theorem key72 : KeyOk Tryd.prog 72 encII := keyOk_ii Tryd.underlying72 (fun _ _ _ _ => by kernel_rfl) eq72
end Go.Proofs.YtdiieblgeaehpaaDoor
