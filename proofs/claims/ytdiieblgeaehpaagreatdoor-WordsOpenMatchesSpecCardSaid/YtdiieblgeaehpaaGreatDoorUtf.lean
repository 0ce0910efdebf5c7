/- unicode/utf8.DecodeRune by the shelf's contract: the tables of package utf8 lie in the memory that is only read. -/
import Derived.Test.YtdiieblgeaehpaaGreatDoorShelf
import Derived.Test.YtdiieblgeaehpaaGreatDoorEngR
import Derived.Test.YtdiieblgeaehpaaGreatDoorFacts
namespace Go.Proofs.YtdiieblgeaehpaaGreatDoor
open Go Go.E Go.RowKit Go.Shelf

/-- The two tables of package utf8. -/
def Utab (H : PH) : Prop :=
  (∀ c, c < 256 → cellP H ⟨Tryz.lays7n32_ren.g 2, c, none⟩ = some (.int .u8 (Lib.firstT c))) ∧
  (∀ i, i < 16 → cellP H ⟨Tryz.lays7n32_ren.g 3, 2 * i, none⟩ = some (.int .u8 (Lib.accLo i)) ∧ cellP H ⟨Tryz.lays7n32_ren.g 3, 2 * i + 1, none⟩ = some (.int .u8 (Lib.accHi i)))
theorem Utab.mono {H H' : PH} (h : Utab H) (hs : Le H H') : Utab H' :=
  ⟨fun c hc => cellP_mono hs (h.1 c hc), fun i hi => ⟨cellP_mono hs (h.2 i hi).1, cellP_mono hs (h.2 i hi).2⟩⟩
theorem Utab.tabs {w : World} (h : Utab (hp w)) : Lib.Utf8Tabs (Tryz.lays7n32_ren.g 2) (Tryz.lays7n32_ren.g 3) w := ⟨h.1, h.2⟩

def decL (l : List UInt8) : Option (Int × Int) := Go.L.chk (l ≠ []) (some (((Lib.decodeGo ⟨l.toArray⟩).1 : Int), ((Lib.decodeGo ⟨l.toArray⟩).2 : Int)))
theorem dec_l (w : World) (H : PH) (hH : Le H (hp w)) (hU : Utab H) {u : Value} {l : List UInt8} (ha : Vec .byte H u l) {r : Int × Int} (h : decL l = some r) :
    Ok Tryz.prog 93 [u] w (fun v w' => Ext w w' ∧ v = .tuple #[.int .i32 r.1, .int .i64 r.2]) := by
  obtain ⟨hk, h⟩ := Go.L.chk_some h
  obtain rfl := Option.some.inj h
  have hs : (ByteArray.mk l.toArray).size = l.length := by simp [ByteArray.size]
  obtain ⟨a, cap, rfl, h2, h3, h4, h5⟩ := ha.ex
  cases a with
  | none => exact absurd (List.eq_nil_of_length_eq_zero (by have := h4 rfl; omega)) hk
  | some A =>
    obtain ⟨h6, h7⟩ := h5 A rfl hk
    obtain ⟨b, off, sp⟩ := A
    simp only at h6
    subst h6
    have hc := Any7.utf8_DecodeRune Tryz.lays7n32 ⟨l.toArray⟩ b off cap w (hU.mono hH).tabs (fun j hj => by
      rw [hs] at hj
      obtain ⟨c, hc, hcell⟩ := h7 j l[j] (List.getElem?_eq_getElem hj)
      obtain rfl : c = [.int .u8 (l[j].toNat : Int)] := hc
      have := cell_of hH (hcell 0 _ rfl)
      rw [show (Rp.byte).sz = 1 from rfl, Nat.mul_one, Nat.add_zero, Addr.add_lit] at this
      rw [this]
      have e : (ByteArray.mk l.toArray).get! j = l[j] := by simp [ByteArray.get!, hj]
      rw [e])
    rw [hs] at hc
    refine ⟨⟨Tryz.f93, _, Tryz.func93, rfl, rfl⟩, hc.mono fun e w' he => ?_⟩
    obtain ⟨rfl, hb⟩ := he
    exact ⟨_, rfl, ⟨hb⟩, rfl⟩
end Go.Proofs.YtdiieblgeaehpaaGreatDoor
