/- What the rows list of package utf8, as the walks ask for it; a world that meets it. -/
import Derived.Test.YtdiieblgeaehpaaDoorUtf
import Derived.Test.YtdiieblgeaehpaaDoorRows
import Derived.Lib.LaidU8T
import Derived.LaidMore
import Derived.MakeChecks
import Derived.LaidHandle
import Derived.KernelRfl
namespace Go.Proofs.YtdiieblgeaehpaaDoor
open Go Go.E Go.Shelf Go.Lib
def u8ren : Ren := ⟨fun n => n, fun | 119 => 145 | 138 => 147 | 139 => 148 | n => n, fun | 3 => Tryd.lays7n32_ren.g 2 | 4 => Tryd.lays7n32_ren.g 3 | n => n⟩
theorem u8types : U8Types Tryd.prog u8ren := ⟨Tryd.underlying5, Tryd.underlying145, Tryd.underlying147, Tryd.underlying148⟩
def laidU : List (String × DataW Unit) := [("unicode/utf8.acceptRanges", Rows.laid_unicode_utf8_acceptRanges), ("unicode/utf8.first", Rows.laid_unicode_utf8_first)]
theorem utab_of_laid {W : World} (h : laidMetH Tryd.prog laidU W) : Utab (hp W) := by
  rw [MakeChecks.laidMetH_plain _ _ _ (by kernel_rfl)] at h
  have e1 : Rows.laid_unicode_utf8_first = firstData := by kernel_rfl
  have e2 : (Rows.laid_unicode_utf8_acceptRanges : DataW Unit) = acceptData := by kernel_rfl
  have h1 := laidMet.reads h (.head _)
  have h2 := laidMet.reads h (.tail _ (.head _))
  rw [e2] at h1
  rw [e1] at h2
  have ht := utf8Tabs_of_readsT u8types ⟨by kernel_rfl, by kernel_rfl, by kernel_rfl, by kernel_rfl, by kernel_rfl, by kernel_rfl, by kernel_rfl⟩ h2 h1
  exact ⟨ht.1, ht.2⟩
noncomputable def laidWorld (os : Os) : World :=
  let w0 := World.holding Tryd.prog os ⟨#[], #[], []⟩
  let put (h : Array Obj) (g : Nat) (cs : Array Value) : Array Obj := h.modify g fun
    | .cells _ t frozen => .cells cs t frozen
    | o => o
  let h1 := put w0.heap (Tryd.lays7n32_ren.g 2) (Lib.firstTab.map fun z => Value.int .u8 z).toArray
  let h2 := put h1 (Tryd.lays7n32_ren.g 3) ((List.range 16).flatMap fun i => [Value.int .u8 (Lib.accLo i), Value.int .u8 (Lib.accHi i)]).toArray
  { w0 with heap := h2 }
theorem door_met (os : Os) (args : Array Value) : laidMetH Tryd.prog laidU ((laidWorld os).forCall (fun _ _ => 0) ⟨#[], args, []⟩).memory :=
  laidMetH_of_parts3 (fuel := 8) (laidMet_of_run' 8 (by kernel_rfl) (by kernel_rfl)) (by kernel_rfl) (by kernel_rfl)
end Go.Proofs.YtdiieblgeaehpaaDoor
