/- slices.AppendSeq, slices.Collect and words.split: the words of a text as a new slice. -/
import Derived.Test.YtdiieblgeaehpaaGreatDoorP4
namespace Go.Proofs.YtdiieblgeaehpaaGreatDoor
open Go Go.E Go.RowKit

/-- What words.split hands back, in memory that lies fast. -/
def Iter (H : PH) (v : Value) (l : List UInt8) : Prop := ∃ p u, v = .func (.func 72) #[] #[.pointer (some p)] ∧ PtrTo H p [u] ∧ Vec .byte H u l
theorem Iter.mono {H H' : PH} {v : Value} {l : List UInt8} (h : Iter H v l) (hs : Le H H') : Iter H' v l := by
  obtain ⟨p, u, h1, h2, h3⟩ := h
  exact ⟨p, u, h1, h2.mono hs, h3.mono hs⟩
abbrev rpW : Rp (List UInt8 × Int × Int) := .pair .st (.pair (.int .i64) (.int .i64))
noncomputable def collectW (l : List UInt8) : Option (List (List UInt8 × Int × Int)) := words_split_1 [] l

theorem split_ok (w : World) (H : PH) (hH : Le H (hp w)) {a0 : List UInt8} {v0_0 : Value} (h0_0 : Vec .byte H v0_0 a0) :
    Ok Tryz.prog 49 [v0_0] w (fun v w' => Ext w w' ∧ Iter (un H (nw w w')) v a0) := by
  refine Ok_enter (n := 4) [(0, v0_0)] Tryz.func49 rfl rfl rfl rfl rfl ?_
  have hL := Lcl.start w
  refine W_seqr ?_
  refine S_box1 (t := 22) rfl h0_0.one rfl hL ?_
  intro w1 b1 hL1 hle1 _
  refine S_pu 1 rfl ?_
  refine S_seqnil ?_
  refine W_seqr ?_
  refine S_pu 2 rfl ?_
  refine S_seqnil ?_
  refine W_ret ?_
  refine At_body rfl rfl ?_
  have hp1 : PtrTo (hp w1) ⟨b1, 0, none⟩ [v0_0] := box_ptr (i := 0) hL1 rfl
  have hn : b1 ≥ w.heap.size := hL1.own _ (.head _) b1 rfl
  refine ⟨hL1.ext, ⟨b1, 0, none⟩, v0_0, rfl, ⟨rfl, fun j u hj => ?_⟩, h0_0.mono (le_un_left hH)⟩
  have h1 := hp1.2 j u hj
  have h2 : un H (nw w w1) b1 = hp w1 b1 := by
    have h3 : nw w w1 b1 = hp w1 b1 := by unfold nw; rw [if_pos hn]; rfl
    cases h4 : hp w1 b1 with
    | none => 
      have := hL1.at (i := 0) rfl
      have h5 : w1.heap[b1]? = none := h4
      rw [show w1.heap[b1]? = _ from this] at h5
      cases h5
    | some o => exact le_un_right b1 o (h3.trans h4)
  simp only [Addr.add_lit, cellP] at h1 ⊢
  rw [h2]; exact h1

set_option maxRecDepth 10000 in
theorem appendSeq_ok (w : World) (H : PH) (hH : Le H (hp w)) (hU : Utab H) {p : Addr} {u : Value} {l0 : List UInt8} (hpt : PtrTo H p [u]) (hv : Vec .byte H u l0) {r : List (List UInt8 × Int × Int)} (h : words_split_1 [] l0 = some r) :
    Ok Tryz.prog 71 [.slice none 0 0, .func (.func 72) #[] #[.pointer (some p)]] w (fun v w' => Ext w w' ∧ OwnH 75 rpW H w w' v r) := by
  refine OkM_enter (k := 13) [(0, .slice none 0 0), (1, .func (.func 72) #[] #[.pointer (some p)])] Tryz.func71 rfl rfl rfl rfl rfl ?_
  have hL := Lcl.start w
  refine W_seqr ?_
  refine S_box1 (t := 67) rfl rfl rfl hL ?_
  intro w1 b1 hL1 hle1 _
  refine S_pu 1 rfl ?_
  refine S_seqnil ?_
  refine W_seq ?_
  refine W_seqr ?_
  refine S_pu 1 rfl ?_
  refine S_seqnil ?_
  refine W_block ?_
  refine W_range (cap := [.pointer (some p)]) rfl ⟨Tryz.f72, _, Tryz.func72, rfl, rfl⟩ hL1 ?_
  intro a fr fn l D w2 rec hrec hL2 hle2
  have hY : YSpec Tryz.prog rpW 3 32 l D b1 rec 67 75 := by
    subst hrec
    refine ySpec_of (p := 7) (k := 13) rfl rfl rfl ⟨fr.size, rfl, fr.get⟩ rfl ?_
    intro x0 x1 G P v y xs c m x hG hM he hy hx hc
    obtain ⟨xa, xb, xc⟩ := x
    obtain ⟨_, _, rfl, rfl, _, _, rfl, rfl, rfl⟩ := hx
    refine WR_region rfl no_begQ ?_
    refine S_alloc zr75 rfl rfl hM ?_
    intro w3 bx hM3 hl3 _
    refine S_storeBN 0 rfl rfl hy zr75 hM3 rfl rfl (onc rfl (onc rfl (onc rfl on0))) ?_
    intro w4 hM4 hl4
    refine S_nil ?_
    refine At_begin (i := 1) rfl hM4 rfl ?_
    intro w5 hM5 hl5
    refine WR_block ?_
    refine WR_region rfl (no_block no_round) ?_
    refine S_v (r_loadB1 3 rfl Tryz.underlying67 rfl hM5 rfl rfl) rfl ?_
    refine S_v (r_loadBN 0 rfl Tryz.underlying75 rfl zr75 hM5 rfl) rfl ?_
    refine S_litE (r := rpW) (l := [(xa, xb, xc)]) rfl (fun _ => bsl67_1 _ _ _ _) rfl (show 1 ≤ 9223372036854775807 by decide) hG hM5 (.c3 ⟨_, _, rfl, rfl, _, _, rfl, rfl, rfl⟩ .nil) ?_
    intro v6 w6 hx6 hM6 hl6 hv6
    refine S_appE (r := rpW) (l := m) (m := [(xa, xb, xc)]) 4 rfl rfl Tryz.underlying67 zr75 rfl (by decide) rfl hG hM6 rfl (((he.mono (gz_mono hG hl3)).mono (gz_mono hG hl4)).mono (gz_mono hG hl5) |>.mono (gz_mono hG hl6)) hv6 hc ?_
    intro v7 w7 xs7 hM7 hl7 he7
    refine S_storeB1 3 rfl rfl (row_one (hM7.at (i := 4) rfl)) zr67 hM7 rfl rfl ?_
    intro w8 hM8 hl8
    refine S_nil ?_
    refine At_block ?_
    refine At_round_end (i := 1) hM8 rfl ?_
    intro w9 hM9 hl9
    refine ⟨rfl, v7, xs7, hM9.dropAt (i := 0) rfl, ((((((hl3.trans hl4).trans hl5).trans hl6).trans hl7).trans hl8).trans hl9).trans (fz_dropAt (i := 0) rfl), ?_⟩
    exact ((he7.mono (gz_mono hG hl8)).mono (gz_mono hG hl9)).mono (gz_mono hG (fz_dropAt (i := 0) rfl))
  obtain ⟨hL3, hle3, he3⟩ := row_nilE rpW H 75 hL2
  have hp4 : (yR l D b1 rec 67 75 3 (.slice none 0 0) ([] : List (List UInt8 × Int × Int)).length [] ++ []).Perm (.row (.slice none 0 0) 75 rpW.sz ([] : List (List UInt8 × Int × Int)).length [] :: [.obj l (.loop rec), .obj D (.deferred (some [])), .box b1 [.slice none 0 0] 67]) :=
    List.perm_append_comm (l₁ := ([.obj l (.loop rec), .obj D (.deferred (some [])), .box b1 [.slice none 0 0] 67] : List Res)) (l₂ := ([.row (.slice none 0 0) 75 3 0 []] : List Res))
  have hL4 := hL3.perm hp4
  have hc := words_split_1_fr hH hU (O := []) hY hL4 .nil (hv.mono (gz_left hH)) (hpt.mono (gz_left hH)) h
  refine hc.2.mono fun e w5 ⟨v5, he5, hR⟩ => ⟨⟨v5, he5⟩, ?_⟩
  obtain ⟨u0, y0, _, hL5, hle5, hel5⟩ := hR
  refine ⟨_, hL5, fun w6 hL6 hle6 => ?_⟩
  refine At_block ?_
  refine At_seq ?_
  refine W_seqr ?_
  refine S_v (r_loadB1 2 rfl Tryz.underlying67 rfl hL6 rfl rfl) rfl ?_
  refine S_pu 1 rfl ?_
  refine S_seqnil ?_
  refine W_ret ?_
  refine At_retM (i := 1) (l := [.tmp 4]) rfl rfl hL6 rfl ?_
  intro w7 hL7 hle7
  exact ⟨hL7.ext, hL7.ownH hH (i := 3) rfl ((hel5.mono (gz_mono hH hle6)).mono (gz_mono hH hle7))⟩

theorem collect_ok (w : World) (H : PH) (hH : Le H (hp w)) (hU : Utab H) {v0_0 : Value} {a0 : List UInt8} (h0_0 : Iter H v0_0 a0) {r : List (List UInt8 × Int × Int)} (h : collectW a0 = some r) :
    Ok Tryz.prog 48 [v0_0] w (fun v w' => Ext w w' ∧ ∃ u0, v = u0 ∧ OwnH 75 rpW H w w' u0 r) := by
  obtain ⟨p, u, rfl, h2, h3⟩ := h0_0
  refine Ok_enter (n := 5) [(0, .func (.func 72) #[] #[.pointer (some p)])] Tryz.func48 rfl rfl rfl rfl rfl ?_
  refine W_seqr ?_
  refine S_pu 1 rfl ?_
  refine S_seqnil ?_
  refine W_seqr ?_
  refine S_pu 1 rfl ?_
  refine S_call rfl rfl (appendSeq_ok w H hH hU h2 h3 h) ?_
  intro v w' ⟨hx, ho⟩
  refine S_pu 1 rfl ?_
  refine S_seqnil ?_
  refine W_ret ?_
  exact At_body rfl rfl ⟨hx, _, rfl, ho⟩
end Go.Proofs.YtdiieblgeaehpaaGreatDoor
