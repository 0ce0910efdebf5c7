/- strings.Builder: WriteByte and String, for a builder of the call's own. -/
import Derived.Test.YtdiieblgeaehpaaGreatDoorEngX
import Derived.Test.YtdiieblgeaehpaaGreatDoorFacts
namespace Go.Proofs.YtdiieblgeaehpaaGreatDoor
open Go Go.E Go.RowKit

theorem cells_u8 : Tryz.prog.cellsOf 5 = 1 := by kernel_rfl
theorem lies_b : liesAt Tryz.prog Tryz.prog.depth 86 (2 / Tryz.prog.cellsOf 86) 0 86 1 = true := by kernel_rfl

theorem copyCheck_fr {w0 w : World} {O : List Res} {b : Nat} {ad v : Value} (hL : Lcl w0 (HAppend.hAppend ([.box b [ad, v] 86] : List Res) O) w) (ha : BAd b ad) :
    Ok Tryz.prog 60 [.pointer (some ⟨b, 0, none⟩)] w (fun r w' => r = .tuple #[] ∧ Lcl w0 (HAppend.hAppend ([.box b [.pointer (some ⟨b, 0, none⟩), v] 86] : List Res) O) w' ∧
      Le (fz w (HAppend.hAppend ([.box b [ad, v] 86] : List Res) O)) (fz w' (HAppend.hAppend ([.box b [.pointer (some ⟨b, 0, none⟩), v] 86] : List Res) O))) := by
  obtain ⟨j, hj, _, hj2, _⟩ := zr86.parts
  refine Ok_enter (n := 20) [(0, .pointer (some ⟨b, 0, none⟩))] Tryz.func60 rfl rfl rfl rfl rfl ?_
  refine W_seqr ?_
  refine S_pu 1 rfl ?_
  refine S_v (r_nilChk rfl) rfl ?_
  refine S_v (r_field rfl Tryz.underlying86 rfl zr84 (by decide)) rfl ?_
  refine S_v (r_loadB1 0 rfl Tryz.underlying84 rfl hL rfl rfl) rfl ?_
  rcases ha with rfl | rfl
  · refine S_v (r_eqPnil rfl Tryz.underlying84) rfl ?_
    refine S_seqnil ?_
    refine W_true rfl ?_
    refine W_region ?_
    refine S_pu 2 rfl ?_
    refine S_v (r_toU 0 rfl Tryz.underlying84 Tryz.underlying146 hj (by omega) hL rfl rfl) rfl ?_
    refine S_v (r_noesc Tryz.func84 rfl rfl (by kernel_rfl) (by kernel_rfl) rfl) rfl ?_
    refine S_v (r_fromU 0 rfl Tryz.underlying146 Tryz.underlying84 hj hL rfl lies_b) rfl ?_
    refine S_v (r_nilChk rfl) rfl ?_
    refine S_v (r_field rfl Tryz.underlying86 rfl zr84 (by decide)) rfl ?_
    refine S_storeB1 0 rfl rfl rfl zr84 hL rfl rfl ?_
    intro w1 hL1 hle1
    refine S_nil ?_
    exact At_got0e rfl ⟨rfl, hL1, hle1⟩
  · refine S_v (r_eqPnil rfl Tryz.underlying84) rfl ?_
    refine S_seqnil ?_
    refine W_false rfl ?_
    refine W_seqr ?_
    refine S_pu 1 rfl ?_
    refine S_v (r_nilChk rfl) rfl ?_
    refine S_v (r_field rfl Tryz.underlying86 rfl zr84 (by decide)) rfl ?_
    refine S_v (r_loadB1 0 rfl Tryz.underlying84 rfl hL rfl rfl) rfl ?_
    refine S_pu 1 rfl ?_
    refine S_v (r_nePself rfl rfl Tryz.underlying84 hj) rfl ?_
    refine S_seqnil ?_
    refine W_false rfl ?_
    refine W_skip ?_
    exact At_got0e rfl ⟨rfl, hL, Le.refl _⟩

theorem wbyte_fr {w0 w : World} {H : PH} (hH : Le H (hp w0)) {O : List Res} {b : Nat} {ad v : Value} {xs : List Value} {l : List UInt8} {c : UInt8} (hL : Lcl w0 (HAppend.hAppend ([.box b [ad, v] 86, .row v 5 1 l.length xs] : List Res) O) w) (ha : BAd b ad)
    (he : Elems .byte (gz H w0 w (HAppend.hAppend ([.box b [ad, v] 86, .row v 5 1 l.length xs] : List Res) O)) l xs) (hc : Go.E.Cap 1 (l.length + 1)) :
    Ok Tryz.prog 38 [.pointer (some ⟨b, 0, none⟩), .int .u8 (c.toNat : Int)] w (fun r w' => ∃ (u : Value) (y : List Value), r = .nilIface ∧ Lcl w0 (HAppend.hAppend ([.box b [.pointer (some ⟨b, 0, none⟩), u] 86, .row u 5 1 (l ++ [c]).length y] : List Res) O) w' ∧
      Le (fz w (HAppend.hAppend ([.box b [ad, v] 86, .row v 5 1 l.length xs] : List Res) O)) (fz w' (HAppend.hAppend ([.box b [.pointer (some ⟨b, 0, none⟩), u] 86, .row u 5 1 (l ++ [c]).length y] : List Res) O)) ∧
      Elems .byte (gz H w0 w' (HAppend.hAppend ([.box b [.pointer (some ⟨b, 0, none⟩), u] 86, .row u 5 1 (l ++ [c]).length y] : List Res) O)) (l ++ [c]) y) := by
  refine Ok_enter (n := 17) [(0, .pointer (some ⟨b, 0, none⟩)), (1, .int .u8 (c.toNat : Int))] Tryz.func38 rfl rfl rfl rfl rfl ?_
  refine W_seqr ?_
  refine S_pu 1 rfl ?_
  refine S_seqnil ?_
  refine W_seqr ?_
  refine S_pu 1 rfl ?_
  refine S_call rfl rfl (copyCheck_fr (O := HAppend.hAppend ([.row v 5 1 l.length xs] : List Res) O) hL ha) ?_
  rintro _ w1 ⟨rfl, hL1, hle1⟩
  refine S_seqnil ?_
  refine W_seqr ?_
  refine S_pu 2 rfl ?_
  refine S_v (r_nilChk rfl) rfl ?_
  refine S_v (r_field rfl Tryz.underlying86 rfl zr22 (by decide)) rfl ?_
  refine S_v (r_loadB1 0 rfl Tryz.underlying22 rfl hL1 rfl rfl) rfl ?_
  refine S_pu 1 rfl ?_
  refine S_litE (r := .byte) (l := [c]) rfl (fun _ => bsl22_1 _ _) rfl (show 1 ≤ 9223372036854775807 by decide) hH hL1 (.c1 rfl .nil) ?_
  intro v2 w2 hx2 hL2 hle2 hv2
  have he2 := (he.mono (gz_mono hH hle1)).mono (gz_mono hH hle2)
  refine S_appE (r := .byte) (l := l) (m := [c]) 1 rfl rfl Tryz.underlying22 zr5 rfl (by decide) rfl hH hL2 rfl he2 hv2 hc ?_
  intro v3 w3 xs3 hL3 hle3 he3
  refine S_v (r_nilChk rfl) rfl ?_
  refine S_v (r_field rfl Tryz.underlying86 rfl zr22 (by decide)) rfl ?_
  refine S_storeB1 0 rfl rfl (row_one (hL3.at (i := 1) rfl)) zr22 hL3 rfl rfl ?_
  intro w4 hL4 hle4
  refine S_seqnil ?_
  refine W_seqr ?_
  refine S_pu 1 rfl ?_
  refine S_seqnil ?_
  refine W_ret ?_
  exact At_body rfl rfl ⟨v3, xs3, rfl, hL4, ((hle1.trans hle2).trans hle3).trans hle4, he3.mono (gz_mono hH hle4)⟩

set_option maxRecDepth 10000 in
theorem bstr_fr {w0 w : World} {H : PH} {O : List Res} {b : Nat} {ad v : Value} {xs : List Value} {l : List UInt8} (hH : Le H (hp w0)) (hL : Lcl w0 (HAppend.hAppend ([.box b [ad, v] 86, .row v 5 1 l.length xs] : List Res) O) w)
    (he : Elems .byte (gz H w0 w (HAppend.hAppend ([.box b [ad, v] 86, .row v 5 1 l.length xs] : List Res) O)) l xs) (hne : l ≠ []) :
    Ok Tryz.prog 40 [.pointer (some ⟨b, 0, none⟩)] w (fun r w' => r = .string ⟨l.toArray⟩ ∧ Lcl w0 (HAppend.hAppend ([.box b [ad, v] 86] : List Res) O) w' ∧
      Le (fz w (HAppend.hAppend ([.box b [ad, v] 86, .row v 5 1 l.length xs] : List Res) O)) (fz w' (HAppend.hAppend ([.box b [ad, v] 86] : List Res) O))) := by
  have hown : w.ownsRow 0 5 1 v l.length xs := hL.at (i := 1) rfl
  obtain ⟨g, cap, rfl, hcap⟩ : ∃ g cap, v = .slice (some ⟨g, 0, none⟩) l.length cap ∧ cap ≠ 0 := by
    rcases hown.2 with ⟨_, hn0⟩ | ⟨g, cap, cur, h1, _, hb, hnc, hcm, hcs, htake⟩
    · exact absurd (List.eq_nil_of_length_eq_zero hn0) hne
    · have := List.length_pos_iff.2 hne
      exact ⟨g, cap, h1, by omega⟩
  refine Ok_enter (n := 14) [(0, .pointer (some ⟨b, 0, none⟩))] Tryz.func40 rfl rfl rfl rfl rfl ?_
  refine W_seqr ?_
  refine S_pu 1 rfl ?_
  refine S_seqnil ?_
  refine W_seqd (.q 0 (.q 1 (.q 2 (.q 3 (.q 4 (.q 5 (.q 6 (.q 7 (.q 8 (.q 9 (.tail 10))))))))))) mixed (by kernel_rfl) (fun w1 hx1 => ?_)
  have hL1 := hL.call hx1
  have hle1 := fz_ext hL hx1
  refine D_pu 1 rfl ?_
  refine D_v (r_nilChk rfl) rfl rfl ?_
  refine D_v (r_field rfl Tryz.underlying86 rfl zr22 (by decide)) rfl rfl ?_
  refine D_v (r_loadB1 0 rfl Tryz.underlying22 rfl hL1 rfl rfl) rfl rfl ?_
  refine D_v (r_usd rfl hcap) rfl rfl ?_
  refine D_pu 1 rfl ?_
  refine D_v (r_nilChk rfl) rfl rfl ?_
  refine D_v (r_field rfl Tryz.underlying86 rfl zr22 (by decide)) rfl rfl ?_
  refine D_v (r_loadB1 0 rfl Tryz.underlying22 rfl hL1 rfl rfl) rfl rfl ?_
  refine D_v (r_lenH rfl Tryz.underlying22) rfl rfl ?_
  refine D_tail (fun w2 hx2 => ?_)
  have hL2 := hL1.call hx2
  have hle2 := fz_ext hL1 hx2
  refine S_uStr (H := H) 1 rfl rfl Tryz.underlying119 cells_u8 rfl hL2 rfl ((he.mono (gz_mono hH hle1)).mono (gz_mono hH hle2)) hne ?_
  intro w3 hL3 hle3
  refine S_pu 1 rfl ?_
  refine S_seqnil ?_
  refine W_ret ?_
  exact At_body rfl rfl ⟨rfl, hL3, (hle1.trans hle2).trans hle3⟩
end Go.Proofs.YtdiieblgeaehpaaGreatDoor
