/- Contracts of functions that read and make slices. -/
import Derived.Test.YtidedcbaahiplaaC1
import Derived.Test.YtidedcbaahiplaaSpec
import Derived.Test.YtidedcbaahiplaaEngH
import Derived.KernelRfl
namespace Go.Proofs.Ytidedcbaahiplaa
open Go Go.E Go.RowKit
/-- A share: its keeper, its data. -/
def shr : Rp (Int × List UInt8) := .pair (.int .i64) (.vec .byte)
theorem kps_succ {l : List M.Sh} {k : Nat} (h : k < l.length) : M.kps (l.take (k + 1)) = M.kps (l.take k) ++ [M.kb (l.getD k default).1] := by
  unfold M.kps
  rw [List.take_succ_eq_append_getElem h, List.map_append]
  simp [h]

set_option maxRecDepth 10000 in
theorem same_ok (w : World) {av bv2 : Value} {a b : List UInt8} (ha : Vec .byte (hp w) av a) (hb : Vec .byte (hp w) bv2 b) :
    Ok Try.prog 24 [av, bv2] w (fun v w' => Ext w w' ∧ v = .bool (decide (a = b))) := by
  refine Ok_enter (n := 10) [(0, av), (1, bv2)] Try.func24 rfl rfl rfl rfl rfl ?_
  have hL := Lcl.start w
  refine W_seqr ?_
  refine S_pu 1 rfl ?_
  refine S_seqnil ?_
  refine W_seqr ?_
  refine S_pu 1 rfl ?_
  refine S_v (r_str rfl Try.underlying22 Try.underlying5 Try.underlying9 ha hL.arg) rfl ?_
  refine S_pu 1 rfl ?_
  refine S_v (r_str rfl Try.underlying22 Try.underlying5 Try.underlying9 hb hL.arg) rfl ?_
  refine S_v (r_seq rfl rfl) rfl ?_
  refine S_pu 1 rfl ?_
  refine S_seqnil ?_
  refine W_ret ?_
  refine At_body rfl rfl ?_
  exact ⟨hL.ext, rfl⟩

set_option maxRecDepth 10000 in
theorem keepers_ok (w : World) {lv : Value} {l : List M.Sh} (hl : Vec shr (hp w) lv l) (hk : ∀ i, i < l.length → 0 ≤ (l.getD i default).1) (hn : l.length ≤ 100) :
    Ok Try.prog 52 [lv] w (fun v w' => Ext w w' ∧ Own 5 .byte w w' v (M.kps l)) := by
  refine Ok_enter (n := 20) [(0, lv)] Try.func52 rfl rfl rfl rfl rfl ?_
  have hL := Lcl.start w
  refine W_seqr ?_
  refine S_pu 1 rfl ?_
  refine S_seqnil ?_
  refine W_seqr ?_
  refine S_pu 1 rfl ?_
  refine S_seqnil ?_
  refine W_seq ?_
  refine W_seqr ?_
  refine S_pu 1 rfl ?_
  refine S_v (r_len rfl Try.underlying23 hl) rfl ?_
  refine S_pu 1 rfl ?_
  refine S_seqnil ?_
  refine W_block ?_
  refine W_loop (σ := Nat × Value) (fun (⟨k, ov⟩ : Nat × Value) => [(3, ov), (8, .int .i64 (k : Int)), (2, .slice none 0 0), (6, lv), (7, .int .i64 ((l).length : Int))]) (fun (⟨k, ov⟩ : Nat × Value) wr => Lcl w [.row ov 5 1 k ((M.kps (l.take k)).map bv)] wr ∧ k ≤ l.length) (fun (⟨k, ov⟩ : Nat × Value) => l.length - k) (0, .slice none 0 0) (.cons rfl (.cons rfl (.cons rfl (.cons rfl (.cons rfl (Sub.nil _)))))) ⟨(row_nil hL 5 1).1, Nat.zero_le _⟩ ?_
  rintro ⟨k, ov⟩ wr1 ⟨hL1, hkl⟩
  refine W_seqr ?_
  refine S_pu 1 rfl ?_
  refine S_seqnil ?_
  refine W_seq ?_
  refine W_if rfl (fun hc2 => ?_) (fun hc2 => ?_)
  · have h0 := hk k (by omega)
    refine W_skip ?_
    refine At_seq ?_
    refine W_seq ?_
    refine W_block ?_
    refine W_seqr ?_
    refine S_index rfl rfl Try.underlying23 zr32 hl k rfl (by omega) rfl ?_
    rintro p3 _ ⟨_, _, rfl, rfl, e3v, rfl, e3h⟩ hp3
    refine S_v (r_loadN rfl Try.underlying32 rfl zr32 hp3 hL1.arg) rfl ?_
    refine S_alloc zr32 rfl rfl hL1 ?_
    intro w4 b4 hL4 hle4 _
    refine S_storeBN 0 rfl rfl rfl zr32 hL4 rfl rfl (onc rfl (onc e3h.one on0)) ?_
    intro w5 hL5 hle5
    refine S_seqnil ?_
    refine W_region ?_
    refine S_pu 1 rfl ?_
    refine S_v (r_field rfl Try.underlying32 rfl zr3 (by decide)) rfl ?_
    refine S_v (r_loadB1 0 rfl Try.underlying3 rfl hL5 rfl rfl) rfl ?_
    refine S_v (r_conv Try.underlying3 Try.underlying5 rfl (conv_64_8 (by omega))) rfl ?_
    refine S_lit (sz := 1) rfl (fun _ => bsl22_1 _ _) rfl (by decide) rfl hL5 ?_
    intro v6 w6 hx6 hL6 hle6 hs6 ho6
    replace hs6 := hs6.mono (nw_fz hL5)
    refine S_append 1 rfl rfl Try.underlying22 zr5 rfl (by decide) rfl hL6 rfl (hs6.mono (fz_le _ _)) (onc rfl on0) (by omega) ?_
    intro v7 w7 hL7 hle7
    replace hs6 := hs6.mono hle7
    refine S_pu 1 rfl ?_
    refine S_nil ?_
    refine At_block ?_
    refine At_seq ?_
    refine W_region ?_
    refine S_v (r_ar64 rfl rfl rfl (by omega)) rfl ?_
    refine S_pu 1 rfl ?_
    refine S_nil ?_
    have hL8 := hL7.dropAt (i := 0) rfl
    replace hs6 := hs6.mono (fz_dropAt (i := 0) rfl)
    refine At_round (k + 1, v7) (.cons rfl (.int rfl (by omega) (.cons rfl (.cons rfl (.cons rfl (Sub.nil _)))))) ⟨(by have h := hL8; rw [kps_succ (by omega), List.map_append]; exact h), by omega⟩ (by show l.length - (k + 1) < l.length - k; omega)
  · refine W_exit ?_
    refine At_seq_exit ?_
    refine At_loop_exit ?_
    refine At_exit ?_
    refine At_seq ?_
    refine W_seqr ?_
    refine S_pu 2 rfl ?_
    refine S_seqnil ?_
    refine W_ret ?_
    refine At_body rfl rfl ?_
    obtain rfl : k = l.length := (by omega)
    rw [List.take_length] at hL1
    exact ⟨hL1.ext, hL1.own' (i := 0) (l := M.kps l) (by simp [nthR, M.kps, Rp.byte]) (elems_bytes _ _)⟩

set_option maxRecDepth 10000 in
theorem weights_ok (w : World) {pv : Value} {p : List UInt8} {x : UInt8} (hp0 : Vec .byte (hp w) pv p) (hn : p.length ≤ 100) :
    Ok Try.prog 57 [pv, .int .u8 (x.toNat : Int)] w (fun v w' => Ext w w' ∧ Own 5 .byte w w' v (M.wts p x)) := by
  refine Ok_enter (n := 50) [(0, pv), (1, .int .u8 (x.toNat : Int))] Try.func57 rfl rfl rfl rfl rfl ?_
  have hL := Lcl.start w
  refine W_seqr ?_
  refine S_pu 1 rfl ?_
  refine S_seqnil ?_
  refine W_seqr ?_
  refine S_pu 1 rfl ?_
  refine S_seqnil ?_
  refine W_seq ?_
  refine W_seqr ?_
  refine S_pu 1 rfl ?_
  refine S_v (r_len rfl Try.underlying22 hp0) rfl ?_
  refine S_pu 1 rfl ?_
  refine S_seqnil ?_
  refine W_block ?_
  refine W_loop (σ := Nat × Value) (fun (⟨i, ov⟩ : Nat × Value) => [(5, ov), (15, .int .i64 (i : Int)), (0, pv), (1, .int .u8 (x.toNat : Int)), (4, .slice none 0 0), (13, pv), (14, .int .i64 ((p).length : Int))]) (fun (⟨i, ov⟩ : Nat × Value) wr => Lcl w [.row ov 5 1 i (((List.range i).map fun j => M.wtF p x j p.length).map bv)] wr ∧ i ≤ p.length) (fun (⟨i, ov⟩ : Nat × Value) => p.length - i) (0, .slice none 0 0) (.cons rfl (.cons rfl (.cons rfl (.cons rfl (.cons rfl (.cons rfl (.cons rfl (Sub.nil _)))))))) ⟨(row_nil hL 5 1).1, Nat.zero_le _⟩ ?_
  rintro ⟨i, ov⟩ wr1 ⟨hL1, hil⟩
  refine W_seqr ?_
  refine S_pu 1 rfl ?_
  refine S_seqnil ?_
  refine W_seq ?_
  refine W_if rfl (fun hc2 => ?_) (fun hc2 => ?_)
  · refine W_skip ?_
    refine At_seq ?_
    refine W_seq ?_
    refine W_block ?_
    refine W_seqr ?_
    refine S_pu 1 rfl ?_
    refine S_index rfl rfl Try.underlying22 zr5 hp0 i rfl (by omega) rfl ?_
    rintro p3 _ rfl hp3
    refine S_v (r_load1 rfl Try.underlying5 rfl hp3 hL1.arg) rfl ?_
    refine S_pu 2 rfl ?_
    refine S_seqnil ?_
    refine W_seqr ?_
    refine S_pu 1 rfl ?_
    refine S_seqnil ?_
    refine W_seq ?_
    refine W_seqr ?_
    refine S_pu 1 rfl ?_
    refine S_v (r_len rfl Try.underlying22 hp0) rfl ?_
    refine S_pu 1 rfl ?_
    refine S_seqnil ?_
    refine W_block ?_
    refine W_loop (σ := Nat) (fun k => [(8, .int .u8 ((M.wtF p x i k).toNat : Int)), (22, .int .i64 (k : Int)), (0, pv), (1, .int .u8 (x.toNat : Int)), (4, .slice none 0 0), (5, ov), (6, .int .i64 (i : Int)), (7, .int .u8 ((p.getD i default).toNat : Int)), (13, pv), (14, .int .i64 ((p).length : Int)), (15, .int .i64 (i : Int)), (20, pv), (21, .int .i64 ((p).length : Int))]) (fun k wr => Lcl w [.row ov 5 1 i (((List.range i).map fun j => M.wtF p x j p.length).map bv)] wr ∧ k ≤ p.length) (fun k => p.length - k) 0 (.int rfl rfl (.cons rfl (.cons rfl (.cons rfl (.cons rfl (.cons rfl (.cons rfl (.cons rfl (.cons rfl (.cons rfl (.cons rfl (.cons rfl (.cons rfl (Sub.nil _)))))))))))))) ⟨hL1, Nat.zero_le _⟩ ?_
    rintro k wr4 ⟨hL4, hkl⟩
    refine W_seqr ?_
    refine S_pu 1 rfl ?_
    refine S_seqnil ?_
    refine W_seq ?_
    refine W_if rfl (fun hc5 => ?_) (fun hc5 => ?_)
    · refine W_skip ?_
      refine At_seq ?_
      refine W_seq ?_
      refine W_block ?_
      refine W_seqr ?_
      refine S_pu 1 rfl ?_
      refine S_index rfl rfl Try.underlying22 zr5 hp0 k rfl (by omega) rfl ?_
      rintro p6 _ rfl hp6
      refine S_v (r_load1 rfl Try.underlying5 rfl hp6 hL4.arg) rfl ?_
      refine S_pu 2 rfl ?_
      refine S_seqnil ?_
      refine W_seqr ?_
      refine S_pu 3 rfl ?_
      refine S_seqnil ?_
      refine W_ifn rfl (fun hc7 => ?_) (fun hc7 => ?_)
      · refine W_seqr ?_
        refine S_pu 2 rfl ?_
        refine S_callL rfl rfl hL4 (add_ok _ ) ?_
        rintro _ w8 rfl hx8 hL8 hle8
        refine S_pu 2 rfl ?_
        refine S_callL rfl rfl hL8 (add_ok _ ) ?_
        rintro _ w9 rfl hx9 hL9 hle9
        refine S_callL rfl rfl hL9 (div_ok _ ) ?_
        rintro _ w10 rfl hx10 hL10 hle10
        refine S_pu 3 rfl ?_
        refine S_alloc zr25 rfl rfl hL10 ?_
        intro w11 b11 hL11 hle11 _
        refine S_pu 1 rfl ?_
        refine S_storeBN 0 rfl rfl rfl zr25 hL11 rfl rfl (onc rfl (onc rfl on0)) ?_
        intro w12 hL12 hle12
        refine S_seqnil ?_
        refine W_region ?_
        refine S_pu 2 rfl ?_
        refine S_callL rfl rfl hL12 (mul_ok _ ) ?_
        rintro _ w13 rfl hx13 hL13 hle13
        refine S_pu 1 rfl ?_
        refine S_nil ?_
        refine At_block ?_
        refine At_seq ?_
        refine W_region ?_
        refine S_v (r_ar64 rfl rfl rfl (by omega)) rfl ?_
        refine S_pu 1 rfl ?_
        refine S_nil ?_
        have hL14 := hL13.dropAt (i := 0) rfl
        refine At_round (k + 1) (.int rfl (by first | (rw [M.wtF, if_neg (by omega)]) | (rw [M.wtF, if_pos (by omega)])) (.int rfl (by omega) (.cons rfl (.cons rfl (.cons rfl (.cons rfl (.cons rfl (.cons rfl (.cons rfl (.cons rfl (.cons rfl (.cons rfl (.cons rfl (Sub.nil _)))))))))))))) ⟨hL14, by omega⟩ (by omega)
      · refine W_skip ?_
        refine At_block ?_
        refine At_seq ?_
        refine W_region ?_
        refine S_v (r_ar64 rfl rfl rfl (by omega)) rfl ?_
        refine S_pu 1 rfl ?_
        refine S_nil ?_
        refine At_round (k + 1) (.int rfl (by first | (rw [M.wtF, if_neg (by omega)]) | (rw [M.wtF, if_pos (by omega)])) (.int rfl (by omega) (.cons rfl (.cons rfl (.cons rfl (.cons rfl (.cons rfl (.cons rfl (.cons rfl (.cons rfl (.cons rfl (.cons rfl (.cons rfl (Sub.nil _)))))))))))))) ⟨hL4, by omega⟩ (by omega)
    · obtain rfl : k = p.length := (by omega)
      refine W_exit ?_
      refine At_seq_exit ?_
      refine At_loop_exit ?_
      refine At_exit ?_
      refine At_seq ?_
      refine W_region ?_
      refine S_pu 2 rfl ?_
      refine S_lit (sz := 1) rfl (fun _ => bsl22_1 _ _) rfl (by decide) rfl hL4 ?_
      intro v15 w15 hx15 hL15 hle15 hs15 ho15
      replace hs15 := hs15.mono (nw_fz hL4)
      refine S_append 0 rfl rfl Try.underlying22 zr5 rfl (by decide) rfl hL15 rfl (hs15.mono (fz_le _ _)) (onc rfl on0) (by omega) ?_
      intro v16 w16 hL16 hle16
      replace hs15 := hs15.mono hle16
      refine S_pu 1 rfl ?_
      refine S_nil ?_
      refine At_block ?_
      refine At_seq ?_
      refine W_region ?_
      refine S_v (r_ar64 rfl rfl rfl (by omega)) rfl ?_
      refine S_pu 1 rfl ?_
      refine S_nil ?_
      refine At_round (i + 1, v16) (.cons rfl (.int rfl (by omega) (.cons rfl (.cons rfl (.cons rfl (.cons rfl (.cons rfl (Sub.nil _)))))))) ⟨(by have h := hL16; rw [List.range_succ, List.map_append, List.map_append]; exact h), by omega⟩ (by show p.length - (i + 1) < p.length - i; omega)
  · refine W_exit ?_
    refine At_seq_exit ?_
    refine At_loop_exit ?_
    refine At_exit ?_
    refine At_seq ?_
    refine W_seqr ?_
    refine S_pu 2 rfl ?_
    refine S_seqnil ?_
    refine W_ret ?_
    refine At_body rfl rfl ?_
    obtain rfl : i = p.length := (by omega)
    exact ⟨hL1.ext, hL1.own' (i := 0) (l := M.wts p x) (by simp [nthR, M.wts, Rp.byte]) (elems_bytes _ _)⟩

set_option maxRecDepth 10000 in
theorem cloneb_ok (w : World) {sv : Value} {s : List UInt8} (hs : Vec .byte (hp w) sv s) (hn : s.length ≤ 1048576) :
    Ok Try.prog 55 [sv] w (fun v w' => Ext w w' ∧ Own 5 .byte w w' v s) := by
  obtain ⟨sa, scap, rfl⟩ := hs.header
  refine Ok_enter (n := 8) [(0, .slice sa s.length scap)] Try.func55 rfl rfl rfl rfl rfl ?_
  have hL := Lcl.start w
  refine W_seqr ?_
  refine S_pu 1 rfl ?_
  refine S_seqnil ?_
  refine W_seq ?_
  refine W_seqr ?_
  refine S_pu 1 rfl ?_
  refine S_v (r_isnil rfl rfl Try.underlying22) rfl ?_
  refine S_seqnil ?_
  refine W_cond rfl (fun hc1 => ?_) (fun hc1 => ?_)
  · have hs0 : s = [] := by
      cases sa with
      | some a => cases hc1
      | none => obtain ⟨a, c, h1, h2, h3, h4, h5⟩ := hs.ex; cases h1; exact List.eq_nil_of_length_eq_zero (by have := h4 rfl; omega)
    subst hs0
    refine W_seqr ?_
    refine S_pu 1 rfl ?_
    refine S_seqnil ?_
    refine W_ret ?_
    refine At_seq_ret ?_
    refine At_body rfl rfl ?_
    have h := row_nil hL 5 1
    exact ⟨hL.ext, h.1.own' (i := 0) (l := []) rfl .nil⟩
  · refine W_skip ?_
    refine At_seq ?_
    refine W_seqr ?_
    refine S_lit (sz := 1) rfl (fun _ => bsl22_0 _) rfl (by decide) rfl hL ?_
    intro v2 w2 hx2 hL2 hle2 hs2 ho2
    obtain ⟨hL2, hle2⟩ := row_new hL hx2 ho2
    refine S_pu 1 rfl ?_
    obtain ⟨news3, hn3, hs3⟩ := hs.elems
    refine S_append 0 rfl rfl Try.underlying22 zr5 rfl (by decide) rfl hL2 rfl (hs3.mono hL2.arg) hn3.one (by omega) ?_
    intro v3 w3 hL3 hle3
    refine S_pu 1 rfl ?_
    refine S_seqnil ?_
    refine W_ret ?_
    refine At_body rfl rfl ?_
    obtain rfl := bytes_elems hn3
    exact ⟨hL3.ext, hL3.own' (i := 0) (l := s) (by simp [nthR, setR, Rp.byte]) (elems_bytes _ _)⟩

set_option maxRecDepth 10000 in
theorem clonei_ok (w : World) {sv : Value} {s : List Int} (hs : Vec (.int .i64) (hp w) sv s) (hn : s.length ≤ 1048576) :
    Ok Try.prog 60 [sv] w (fun v w' => Ext w w' ∧ Own 3 (.int .i64) w w' v s) := by
  obtain ⟨sa, scap, rfl⟩ := hs.header
  refine Ok_enter (n := 8) [(0, .slice sa s.length scap)] Try.func60 rfl rfl rfl rfl rfl ?_
  have hL := Lcl.start w
  refine W_seqr ?_
  refine S_pu 1 rfl ?_
  refine S_seqnil ?_
  refine W_seq ?_
  refine W_seqr ?_
  refine S_pu 1 rfl ?_
  refine S_v (r_isnil rfl rfl Try.underlying43) rfl ?_
  refine S_seqnil ?_
  refine W_cond rfl (fun hc1 => ?_) (fun hc1 => ?_)
  · have hs0 : s = [] := by
      cases sa with
      | some a => cases hc1
      | none => obtain ⟨a, c, h1, h2, h3, h4, h5⟩ := hs.ex; cases h1; exact List.eq_nil_of_length_eq_zero (by have := h4 rfl; omega)
    subst hs0
    refine W_seqr ?_
    refine S_pu 1 rfl ?_
    refine S_seqnil ?_
    refine W_ret ?_
    refine At_seq_ret ?_
    refine At_body rfl rfl ?_
    have h := row_nil hL 3 1
    exact ⟨hL.ext, h.1.own' (i := 0) (l := []) rfl .nil⟩
  · refine W_skip ?_
    refine At_seq ?_
    refine W_seqr ?_
    refine S_lit (sz := 1) rfl (fun _ => bsl43_0 _) rfl (by decide) rfl hL ?_
    intro v2 w2 hx2 hL2 hle2 hs2 ho2
    obtain ⟨hL2, hle2⟩ := row_new hL hx2 ho2
    refine S_pu 1 rfl ?_
    obtain ⟨news3, hn3, hs3⟩ := hs.elems
    refine S_append 0 rfl rfl Try.underlying43 zr3 rfl (by decide) rfl hL2 rfl (hs3.mono hL2.arg) hn3.one (by omega) ?_
    intro v3 w3 hL3 hle3
    refine S_pu 1 rfl ?_
    refine S_seqnil ?_
    refine W_ret ?_
    refine At_body rfl rfl ?_
    obtain rfl := ints_elems hn3
    exact ⟨hL3.ext, hL3.own' (i := 0) (l := s) (by simp [nthR, setR, Rp.int]) (elems_ints _ _)⟩

theorem eq_take_succ {α : Type} [Inhabited α] {a b : List α} {k : Nat} (h : a.take k = b.take k) (ha : k < a.length) (hb : k < b.length) (he : a.getD k default = b.getD k default) : a.take (k + 1) = b.take (k + 1) := by
  rw [List.take_succ_eq_append_getElem ha, List.take_succ_eq_append_getElem hb, h]
  simp [ha, hb] at he
  rw [he]
theorem eq_of_take {α : Type} {a b : List α} {k : Nat} (h : a.take k = b.take k) (ha : a.length ≤ k) (hb : b.length ≤ k) : a = b := by
  rwa [List.take_of_length_le ha, List.take_of_length_le hb] at h

set_option maxRecDepth 10000 in
theorem equalb_ok (w : World) {av bv2 : Value} {a b : List UInt8} (ha : Vec .byte (hp w) av a) (hb : Vec .byte (hp w) bv2 b) :
    Ok Try.prog 61 [av, bv2] w (fun v w' => Ext w w' ∧ v = .bool (decide (a = b))) := by
  have hla := ha.len_le
  have hlb := hb.len_le
  refine Ok_enter (n := 26) [(0, av), (1, bv2)] Try.func61 rfl rfl rfl rfl rfl ?_
  have hL := Lcl.start w
  refine W_seqr ?_
  refine S_pu 1 rfl ?_
  refine S_seqnil ?_
  refine W_seq ?_
  refine W_seqr ?_
  refine S_pu 1 rfl ?_
  refine S_v (r_len rfl Try.underlying22 ha) rfl ?_
  refine S_pu 1 rfl ?_
  refine S_v (r_len rfl Try.underlying22 hb) rfl ?_
  refine S_pu 1 rfl ?_
  refine S_seqnil ?_
  refine W_ifn rfl (fun hlen => ?_) (fun hlen => ?_)
  · refine W_seqr ?_
    refine S_pu 1 rfl ?_
    refine S_seqnil ?_
    refine W_ret ?_
    refine At_seq_ret ?_
    refine At_body rfl rfl ?_
    exact ⟨hL.ext, by rw [decide_eq_false (fun h => hlen (by rw [h]))]⟩
  · replace hlen : a.length = b.length := (by omega)
    refine W_skip ?_
    refine At_seq ?_
    refine W_seq ?_
    refine W_seqr ?_
    refine S_pu 1 rfl ?_
    refine S_v (r_len rfl Try.underlying22 ha) rfl ?_
    refine S_pu 1 rfl ?_
    refine S_seqnil ?_
    refine W_block ?_
    refine W_loop (σ := Nat) (fun k => [(13, .int .i64 (k : Int)), (0, av), (1, bv2), (12, .int .i64 ((a).length : Int))]) (fun k wr => Lcl w [] wr ∧ k ≤ a.length ∧ a.take k = b.take k) (fun k => a.length - k) 0 (.cons rfl (.cons rfl (.cons rfl (.cons rfl (Sub.nil _))))) ⟨hL, Nat.zero_le _, rfl⟩ ?_
    rintro k wr1 ⟨hL1, hkl, hab⟩
    refine W_seqr ?_
    refine S_pu 1 rfl ?_
    refine S_seqnil ?_
    refine W_seq ?_
    refine W_if rfl (fun hc2 => ?_) (fun hc2 => ?_)
    · refine W_skip ?_
      refine At_seq ?_
      refine W_seq ?_
      refine W_block ?_
      refine W_seqr ?_
      refine S_pu 2 rfl ?_
      refine S_seqnil ?_
      refine W_seqd (.q 0 (.q 1 (.q 2 (.q 3 (.q 4 (.q 5 (.q 6 (.q 7 (.q 8 (.tail 9)))))))))) mixed (by kernel_rfl) (fun w3 hx3 => ?_)
      have hL4 := hL1.call hx3
      refine D_pu 2 rfl ?_
      refine D_index rfl rfl rfl Try.underlying22 zr5 ha k rfl (by omega) rfl ?_
      rintro p5 _ rfl hp5
      refine D_v (r_load1 rfl Try.underlying5 rfl hp5 hL4.arg) rfl rfl ?_
      refine D_pu 2 rfl ?_
      refine D_index rfl rfl rfl Try.underlying22 zr5 hb k rfl (by omega) rfl ?_
      rintro p6 _ rfl hp6
      refine D_v (r_load1 rfl Try.underlying5 rfl hp6 hL4.arg) rfl rfl ?_
      refine D_pu 1 rfl ?_
      refine D_tail (fun w7 hx7 => ?_)
      have hL8 := hL4.call hx7
      refine S_seqnil ?_
      refine W_ifn rfl (fun hne => ?_) (fun hne => ?_)
      · refine W_seqr ?_
        refine S_pu 1 rfl ?_
        refine S_seqnil ?_
        refine W_ret ?_
        refine At_block_ret ?_
        refine At_seq_ret ?_
        refine At_loop_ret ?_
        refine At_block_ret ?_
        refine At_seq_ret ?_
        refine At_body rfl rfl ?_
        exact ⟨hL8.ext, by rw [decide_eq_false (fun h => hne (by rw [h]))]⟩
      · refine W_skip ?_
        refine At_block ?_
        refine At_seq ?_
        refine W_region ?_
        refine S_v (r_ar64 rfl rfl rfl (by omega)) rfl ?_
        refine S_pu 1 rfl ?_
        refine S_nil ?_
        refine At_round (k + 1) (.int rfl (by omega) (.cons rfl (.cons rfl (.cons rfl (Sub.nil _))))) ⟨hL8, by omega, eq_take_succ hab (by omega) (by omega) (UInt8.toNat_inj.1 (by omega))⟩ (by omega)
    · refine W_exit ?_
      refine At_seq_exit ?_
      refine At_loop_exit ?_
      refine At_exit ?_
      refine At_seq ?_
      refine W_seqr ?_
      refine S_pu 1 rfl ?_
      refine S_seqnil ?_
      refine W_ret ?_
      refine At_body rfl rfl ?_
      exact ⟨hL1.ext, by rw [decide_eq_true (eq_of_take hab (by omega) (by omega))]⟩

set_option maxRecDepth 10000 in
theorem ints_ok (w : World) {av bv2 : Value} {a b : List Int} (ha : Vec (.int .i64) (hp w) av a) (hb : Vec (.int .i64) (hp w) bv2 b) :
    Ok Try.prog 31 [av, bv2] w (fun v w' => Ext w w' ∧ v = .bool (decide (a = b))) := by
  have hla := ha.len_le
  have hlb := hb.len_le
  refine Ok_enter (n := 26) [(0, av), (1, bv2)] Try.func31 rfl rfl rfl rfl rfl ?_
  have hL := Lcl.start w
  refine W_seqr ?_
  refine S_pu 1 rfl ?_
  refine S_seqnil ?_
  refine W_seq ?_
  refine W_seqr ?_
  refine S_pu 1 rfl ?_
  refine S_v (r_len rfl Try.underlying43 ha) rfl ?_
  refine S_pu 1 rfl ?_
  refine S_v (r_len rfl Try.underlying43 hb) rfl ?_
  refine S_pu 1 rfl ?_
  refine S_seqnil ?_
  refine W_ifn rfl (fun hlen => ?_) (fun hlen => ?_)
  · refine W_seqr ?_
    refine S_pu 1 rfl ?_
    refine S_seqnil ?_
    refine W_ret ?_
    refine At_seq_ret ?_
    refine At_body rfl rfl ?_
    exact ⟨hL.ext, by rw [decide_eq_false (fun h => hlen (by rw [h]))]⟩
  · replace hlen : a.length = b.length := (by omega)
    refine W_skip ?_
    refine At_seq ?_
    refine W_seq ?_
    refine W_seqr ?_
    refine S_pu 1 rfl ?_
    refine S_seqnil ?_
    refine W_block ?_
    refine W_loop (σ := Nat) (fun k => [(5, .int .i64 (k : Int)), (0, av), (1, bv2)]) (fun k wr => Lcl w [] wr ∧ k ≤ a.length ∧ a.take k = b.take k) (fun k => a.length - k) 0 (.cons rfl (.cons rfl (.cons rfl (Sub.nil _)))) ⟨hL, Nat.zero_le _, rfl⟩ ?_
    rintro k wr1 ⟨hL1, hkl, hab⟩
    refine W_seq ?_
    refine W_seqr ?_
    refine S_pu 2 rfl ?_
    refine S_v (r_len rfl Try.underlying43 ha) rfl ?_
    refine S_pu 1 rfl ?_
    refine S_seqnil ?_
    refine W_if rfl (fun hc2 => ?_) (fun hc2 => ?_)
    · refine W_skip ?_
      refine At_seq ?_
      refine W_seq ?_
      refine W_block ?_
      refine W_seqd (.q 0 (.q 1 (.q 2 (.q 3 (.q 4 (.q 5 (.q 6 (.q 7 (.q 8 (.tail 9)))))))))) mixed (by kernel_rfl) (fun w3 hx3 => ?_)
      have hL4 := hL1.call hx3
      refine D_pu 2 rfl ?_
      refine D_index rfl rfl rfl Try.underlying43 zr3 ha k rfl (by omega) rfl ?_
      rintro p5 _ rfl hp5
      refine D_v (r_load1 rfl Try.underlying3 rfl hp5 hL4.arg) rfl rfl ?_
      refine D_pu 2 rfl ?_
      refine D_index rfl rfl rfl Try.underlying43 zr3 hb k rfl (by omega) rfl ?_
      rintro p6 _ rfl hp6
      refine D_v (r_load1 rfl Try.underlying3 rfl hp6 hL4.arg) rfl rfl ?_
      refine D_pu 1 rfl ?_
      refine D_tail (fun w7 hx7 => ?_)
      have hL8 := hL4.call hx7
      refine S_seqnil ?_
      refine W_ifn rfl (fun hne => ?_) (fun hne => ?_)
      · refine W_seqr ?_
        refine S_pu 1 rfl ?_
        refine S_seqnil ?_
        refine W_ret ?_
        refine At_block_ret ?_
        refine At_seq_ret ?_
        refine At_loop_ret ?_
        refine At_block_ret ?_
        refine At_seq_ret ?_
        refine At_body rfl rfl ?_
        exact ⟨hL8.ext, by rw [decide_eq_false (fun h => hne (by rw [h]))]⟩
      · refine W_skip ?_
        refine At_block ?_
        refine At_seq ?_
        refine W_region ?_
        refine S_pu 1 rfl ?_
        refine S_v (r_ar64 rfl rfl rfl (by omega)) rfl ?_
        refine S_pu 1 rfl ?_
        refine S_nil ?_
        refine At_round (k + 1) (.int rfl (by omega) (.cons rfl (.cons rfl (Sub.nil _)))) ⟨hL8, by omega, eq_take_succ hab (by omega) (by omega) (by omega)⟩ (by omega)
    · refine W_exit ?_
      refine At_seq_exit ?_
      refine At_loop_exit ?_
      refine At_exit ?_
      refine At_seq ?_
      refine W_seqr ?_
      refine S_pu 1 rfl ?_
      refine S_seqnil ?_
      refine W_ret ?_
      refine At_body rfl rfl ?_
      exact ⟨hL1.ext, by rw [decide_eq_true (eq_of_take hab (by omega) (by omega))]⟩

set_option maxRecDepth 10000 in
theorem at_ok (w : World) {lv : Value} {l : List M.Sh} {x : UInt8} (hl : Vec shr (hp w) lv l) (hg : M.Good l) (h0 : 0 < l.length) :
    Ok Try.prog 44 [lv, .int .u8 (x.toNat : Int)] w (fun v w' => Ext w w' ∧ Own 5 .byte w w' v (M.atS l x)) := by
  have hk : ∀ i, i < l.length → 0 ≤ (l.getD i default).1 := fun i hi => (hg.k i hi).1
  have hn : l.length ≤ 100 := Nat.le_trans hg.n (by decide)
  have hd := hg.d
  have hm := hg.m
  refine Ok_enter (n := 53) [(0, lv), (1, .int .u8 (x.toNat : Int))] Try.func44 rfl rfl rfl rfl rfl ?_
  have hL := Lcl.start w
  refine W_seqr ?_
  refine S_pu 1 rfl ?_
  refine S_seqnil ?_
  refine W_seqr ?_
  refine S_pu 1 rfl ?_
  refine S_callL rfl rfl hL (keepers_ok _ (hl.mono hL.arg) (by assumption) (by assumption)) ?_
  intro v1 w1 hR1 hx1 _ _
  have hv1 := hR1.vec.mono (nw_fz hL)
  have hL1 := hL.call hx1
  have hle1 := fz_ext hL hx1
  refine S_pu 1 rfl ?_
  refine S_callL rfl rfl hL1 (weights_ok _ (hv1.mono (fz_le _ _)) (by first | assumption | (rw [M.kps_length]; assumption))) ?_
  intro v2 w2 hR2 hx2 _ _
  have hv2 := hR2.vec.mono (nw_fz hL1)
  have hL2 := hL1.call hx2
  have hle2 := fz_ext hL1 hx2
  replace hv1 := hv1.mono hle2
  refine S_pu 1 rfl ?_
  refine S_seqnil ?_
  refine W_seqr ?_
  refine S_pu 1 rfl ?_
  refine S_index rfl rfl Try.underlying23 zr32 hl 0 rfl h0 rfl ?_
  rintro p3 _ ⟨_, _, rfl, rfl, e3v, rfl, e3h⟩ hp3
  refine S_v (r_field rfl Try.underlying32 rfl zr22 (by decide)) rfl ?_
  have hp4 := hp3.add 1
  refine S_v (r_load1 rfl Try.underlying22 rfl hp4 hL2.arg) rfl ?_
  refine S_v (r_len rfl Try.underlying22 e3h) rfl ?_
  refine S_make (m := (l.getD 0 default).2.length) rfl rfl ⟨rfl, rfl⟩ Try.underlying22 zr5 rfl rfl hL2 (by omega) ?_
  intro v5 w5 hx5 hL5 hle5
  replace hv1 := hv1.mono hle5
  replace hv2 := hv2.mono hle5
  refine S_pu 1 rfl ?_
  refine S_seqnil ?_
  refine W_seq ?_
  refine W_seqr ?_
  refine S_pu 1 rfl ?_
  refine S_v (r_len rfl Try.underlying23 hl) rfl ?_
  refine S_pu 1 rfl ?_
  refine S_seqnil ?_
  refine W_block ?_
  refine W_loop (σ := Nat) (fun k => [(23, .int .i64 (k : Int)), (4, .slice none 0 0), (5, v2), (6, v5), (21, lv), (22, .int .i64 ((l).length : Int))]) (fun k wr => Lcl w [.row v5 5 1 (l.getD 0 default).2.length ((M.atF (M.wts (M.kps l) x) l (List.replicate (l.getD 0 default).2.length 0) k).map bv)] wr ∧ k ≤ l.length ∧ Vec .byte (fz wr [.row v5 5 1 (l.getD 0 default).2.length ((M.atF (M.wts (M.kps l) x) l (List.replicate (l.getD 0 default).2.length 0) k).map bv)]) v2 (M.wts (M.kps l) x)) (fun k => l.length - k) 0 (.cons rfl (.cons rfl (.cons rfl (.cons rfl (.cons rfl (.cons rfl (Sub.nil _))))))) ⟨(by have h := hL5; simp only [List.map_replicate, M.atF]; exact h), Nat.zero_le _, (by have h := hv2; simp only [List.map_replicate, M.atF]; exact h)⟩ ?_
  rintro k wr6 ⟨hL6, hkl, hw6⟩
  refine W_seqr ?_
  refine S_pu 1 rfl ?_
  refine S_seqnil ?_
  refine W_seq ?_
  refine W_if rfl (fun hc7 => ?_) (fun hc7 => ?_)
  · have hdk := hd k (by omega)
    have hlr := M.atF_length (M.wts (M.kps l) x) l (List.replicate (l.getD 0 default).2.length 0) (by simpa using hd) k (by omega)
    rw [List.length_replicate] at hlr
    refine W_skip ?_
    refine At_seq ?_
    refine W_seq ?_
    refine W_block ?_
    refine W_seqr ?_
    refine S_pu 1 rfl ?_
    refine S_index rfl rfl Try.underlying23 zr32 hl k rfl (by omega) rfl ?_
    rintro p8 _ ⟨_, _, rfl, rfl, e8v, rfl, e8h⟩ hp8
    refine S_v (r_loadN rfl Try.underlying32 rfl zr32 hp8 hL6.arg) rfl ?_
    refine S_alloc zr32 rfl rfl hL6 ?_
    intro w9 b9 hL9 hle9 _
    replace hw6 := hw6.mono hle9
    refine S_pu 1 rfl ?_
    refine S_storeBN 0 rfl rfl rfl zr32 hL9 rfl rfl (onc rfl (onc e8h.one on0)) ?_
    intro w10 hL10 hle10
    replace hw6 := hw6.mono hle10
    refine S_seqnil ?_
    refine W_seqr ?_
    refine S_v (r_field rfl Try.underlying32 rfl zr22 (by decide)) rfl ?_
    refine S_v (r_loadB1 0 rfl Try.underlying22 rfl hL10 rfl rfl) rfl ?_
    refine S_v (r_len rfl Try.underlying22 e8h) rfl ?_
    refine S_pu 1 rfl ?_
    refine S_seqnil ?_
    refine W_block ?_
    refine W_loop (σ := Nat) (fun i => [(31, .int .i64 (i : Int)), (4, .slice none 0 0), (5, v2), (6, v5), (7, .int .i64 (k : Int)), (21, lv), (22, .int .i64 ((l).length : Int)), (23, .int .i64 (k : Int)), (29, e8v), (30, .int .i64 (((l.getD k default).2).length : Int))]) (fun i wr => Lcl w [.box b9 [.int .i64 (l.getD k default).1, e8v] 32, .row v5 5 1 (l.getD 0 default).2.length ((M.addTo ((M.wts (M.kps l) x).getD k default) (M.atF (M.wts (M.kps l) x) l (List.replicate (l.getD 0 default).2.length 0) k) (l.getD k default).2 i).map bv)] wr ∧ i ≤ (l.getD 0 default).2.length ∧ Vec .byte (fz wr [.box b9 [.int .i64 (l.getD k default).1, e8v] 32, .row v5 5 1 (l.getD 0 default).2.length ((M.addTo ((M.wts (M.kps l) x).getD k default) (M.atF (M.wts (M.kps l) x) l (List.replicate (l.getD 0 default).2.length 0) k) (l.getD k default).2 i).map bv)]) v2 (M.wts (M.kps l) x)) (fun i => (l.getD 0 default).2.length - i) 0 (.cons rfl (.cons rfl (.cons rfl (.cons rfl (.cons rfl (.cons rfl (.cons rfl (.cons rfl (.cons rfl (.cons rfl (Sub.nil _))))))))))) ⟨(by rw [M.addTo_zero]; exact hL10), Nat.zero_le _, (by rw [M.addTo_zero]; exact hw6)⟩ ?_
    rintro i wr11 ⟨hL11, hil, hw11⟩
    refine W_seqr ?_
    refine S_pu 1 rfl ?_
    refine S_seqnil ?_
    refine W_seq ?_
    refine W_if rfl (fun hc12 => ?_) (fun hc12 => ?_)
    · refine W_skip ?_
      refine At_seq ?_
      refine W_seq ?_
      refine W_block ?_
      refine W_seqr ?_
      refine S_pu 1 rfl ?_
      refine S_index rfl rfl Try.underlying22 zr5 e8h i rfl (by omega) rfl ?_
      rintro p13 _ rfl hp13
      refine S_v (r_load1 rfl Try.underlying5 rfl hp13 hL11.arg) rfl ?_
      refine S_pu 2 rfl ?_
      refine S_seqnil ?_
      refine W_regd (.q 0 (.q 1 (.q 2 (.q 3 (.q 4 (.q 5 (.q 6 (.q 7 (.q 8 (.q 9 (.q 10 (.q 11 (.q 12 (.q 13 (.tail 14))))))))))))))) mixed (by kernel_rfl) (fun w14 hx14 => ?_)
      have hL15 := hL11.call hx14
      have hle15 := fz_ext hL11 hx14
      replace hw11 := hw11.mono hle15
      refine D_pu 4 rfl ?_
      refine D_indexR 1 rfl rfl rfl Try.underlying22 zr5 hL15 rfl i rfl (by omega) rfl ?_
      intro p16 hp16
      refine D_v (r_loadR 1 rfl Try.underlying5 rfl hL15 rfl hp16 (bytes_get (M.addTo_get _ _ _ _ (by omega) (by omega)))) rfl rfl ?_
      refine D_pu 2 rfl ?_
      refine D_index rfl rfl rfl Try.underlying22 zr5 hw11 k rfl (by rw [M.wts_length, M.kps_length]; omega) rfl ?_
      rintro p17 _ rfl hp17
      refine D_v (r_load1 rfl Try.underlying5 rfl hp17 (fz_le _ _)) rfl rfl ?_
      refine D_pu 1 rfl ?_
      refine D_call rfl rfl rfl (fun w18 hx18 => mul_ok _ ) ?_
      refine D_call rfl rfl rfl (fun w19 hx19 => add_ok _ ) ?_
      refine D_indexR 1 rfl rfl rfl Try.underlying22 zr5 hL15 rfl i rfl (by omega) rfl ?_
      intro p20 hp20
      refine D_tail (fun w21 hx21 => ?_)
      have hL22 := hL15.call hx21
      have hle22 := fz_ext hL15 hx21
      replace hw11 := hw11.mono hle22
      replace hp17 := hp17.mono hle22
      refine S_storeR 1 rfl rfl rfl zr5 hL22 rfl hp20 (by rw [List.length_map, M.addTo_length _ _ _ _ (by omega) (by omega)]; omega) ?_
      intro w23 hL23 hle23
      replace hw11 := hw11.mono hle23
      replace hp17 := hp17.mono hle23
      refine S_nil ?_
      refine At_block ?_
      refine At_seq ?_
      refine W_region ?_
      refine S_v (r_ar64 rfl rfl rfl (by omega)) rfl ?_
      refine S_pu 1 rfl ?_
      refine S_nil ?_
      refine At_round (i + 1) (.int rfl (by omega) (.cons rfl (.cons rfl (.cons rfl (.cons rfl (.cons rfl (.cons rfl (.cons rfl (.cons rfl (.cons rfl (Sub.nil _))))))))))) ⟨(by have h := hL23; rw [← M.addTo_succ _ _ _ _ (by omega) (by omega), ← bytes_set]; exact h), by omega, (by have h := hw11; rw [← M.addTo_succ _ _ _ _ (by omega) (by omega), ← bytes_set]; exact h)⟩ (by omega)
    · obtain rfl : i = (l.getD 0 default).2.length := (by omega)
      have hall := M.addTo_all ((M.wts (M.kps l) x).getD k default) (M.atF (M.wts (M.kps l) x) l (List.replicate (l.getD 0 default).2.length 0) k) (l.getD k default).2 (by omega)
      rw [hlr] at hall
      rw [hall] at hL11
      rw [hall] at hw11
      refine W_exit ?_
      refine At_seq_exit ?_
      refine At_loop_exit ?_
      refine At_exit ?_
      refine At_block ?_
      refine At_seq ?_
      refine W_region ?_
      refine S_v (r_ar64 rfl rfl rfl (by omega)) rfl ?_
      refine S_pu 1 rfl ?_
      refine S_nil ?_
      have hL24 := hL11.dropAt (i := 0) rfl
      replace hw11 := hw11.mono (fz_dropAt (i := 0) rfl)
      refine At_round (k + 1) (.int rfl (by omega) (.cons rfl (.cons rfl (.cons rfl (.cons rfl (.cons rfl (Sub.nil _))))))) ⟨hL24, by omega, hw11⟩ (by omega)
  · refine W_exit ?_
    refine At_seq_exit ?_
    refine At_loop_exit ?_
    refine At_exit ?_
    refine At_seq ?_
    refine W_seqr ?_
    refine S_pu 2 rfl ?_
    refine S_seqnil ?_
    refine W_ret ?_
    refine At_body rfl rfl ?_
    obtain rfl : k = l.length := (by omega)
    exact ⟨hL6.ext, hL6.own' (i := 0) (l := M.atS l x) (by have h1 := M.atF_length (M.wts (M.kps l) x) l (List.replicate (l.getD 0 default).2.length 0) (by simpa using hd) l.length (Nat.le_refl _); rw [List.length_replicate] at h1; simp only [nthR, M.atS, Rp.byte, h1]) (elems_bytes _ _)⟩

set_option maxRecDepth 10000 in
theorem fits_ok (w : World) {lv dv : Value} {l : List M.Sh} {k : Int} {d : List UInt8} (hl : Vec shr (hp w) lv l) (hg : M.Good l) (h0 : 0 < l.length) (hdv : Vec .byte (hp w) dv d) (hk0 : 0 ≤ k) :
    Ok Try.prog 48 [lv, .agg #[.int .i64 k, dv]] w (fun v w' => Ext w w' ∧ v = .bool (decide (M.atS l (M.kb k) = d))) := by
  refine Ok_enter (n := 13) [(0, lv), (1, .agg #[.int .i64 k, dv])] Try.func48 rfl rfl rfl rfl rfl ?_
  have hL := Lcl.start w
  refine W_seqr ?_
  refine S_box (t := 32) rfl rfl rfl hL ?_
  intro w1 b1 hL1 hle1 _
  refine S_pu 1 rfl ?_
  refine S_seqnil ?_
  refine W_seqd (.q 0 (.q 1 (.q 2 (.q 3 (.q 5 (.q 6 (.h 4 (.q 7 (.q 8 (.tail 9)))))))))) mixed (by kernel_rfl) (fun w2 hx2 => ?_)
  have hL3 := hL1.call hx2
  refine D_pu 1 rfl ?_
  refine D_v (r_field rfl Try.underlying32 rfl zr3 (by decide)) rfl rfl ?_
  refine D_v (r_loadB1 0 rfl Try.underlying3 rfl hL3 rfl rfl) rfl rfl ?_
  refine D_v (r_conv Try.underlying3 Try.underlying5 rfl (conv_64_8 (by omega))) rfl rfl ?_
  refine D_v (r_field rfl Try.underlying32 rfl zr22 (by decide)) rfl rfl ?_
  refine D_v (r_loadB1 0 rfl Try.underlying22 rfl hL3 rfl rfl) rfl rfl ?_
  refine D_hcall rfl rfl rfl (fun w4 hx4 => at_ok _ (hl.mono (hL3.call hx4).arg) (by assumption) (by assumption)) ?_
  intro w4 v5 w5 hx4 hx5 hR5
  have hL6 := hL3.call hx4
  have hv5 := hR5.vec.mono (nw_fz hL6)
  have hL7 := hL6.call hx5
  refine D_call rfl rfl rfl (fun w8 hx8 => equalb_ok _ ((hv5.mono (fz_le _ _)).mono hx8.le) (hdv.mono (hL7.call hx8).arg)) ?_
  refine D_pu 1 rfl ?_
  refine D_tail (fun w9 hx9 => ?_)
  have hL10 := hL7.call hx9
  have hle10 := fz_ext hL7 hx9
  replace hv5 := hv5.mono hle10
  refine S_seqnil ?_
  refine W_ret ?_
  refine At_body rfl rfl ?_
  exact ⟨hL10.ext, rfl⟩

theorem frg_next {l : List M.Sh} {m k : Nat} {r : Int × Int} (h : M.frF l m (l.length - m - k) (m + k) = r) (hk : k < l.length - m) (hf : M.atS (l.take m) (M.kb (l.getD (m + k) default).1) = (l.getD (m + k) default).2) : M.frF l m (l.length - m - (k + 1)) (m + (k + 1)) = r := by
  rw [show l.length - m - k = (l.length - m - (k + 1)) + 1 by omega, M.frF, if_pos hf] at h; exact h
theorem frg_hit {l : List M.Sh} {m k : Nat} {r : Int × Int} (h : M.frF l m (l.length - m - k) (m + k) = r) (hk : k < l.length - m) (hf : ¬ M.atS (l.take m) (M.kb (l.getD (m + k) default).1) = (l.getD (m + k) default).2) : r = (19, ((m + k : Nat) : Int)) := by
  rw [show l.length - m - k = (l.length - m - (k + 1)) + 1 by omega, M.frF, if_neg hf] at h; exact h.symm
theorem getD_drop {α : Type} [Inhabited α] (l : List α) (m k : Nat) : (l.drop m).getD k default = l.getD (m + k) default := by simp [List.getElem?_drop]

set_option maxRecDepth 10000 in
theorem forged_ok (w : World) {lv : Value} {l : List M.Sh} {m : Nat} (hl : Vec shr (hp w) lv l) (hg : M.Good l) (hm1 : 1 ≤ m) (hm2 : m ≤ l.length) :
    Ok Try.prog 43 [lv, .int .i64 (m : Int)] w (fun v w' => Ext w w' ∧ v = .agg #[.int .i64 (M.frg l m).1, .int .i64 (M.frg l m).2]) := by
  have hn := hg.n
  have hgt := hg.take hm1
  have hlt : 0 < (l.take m).length := by rw [List.length_take]; omega
  refine Ok_enter (n := 28) [(0, lv), (1, .int .i64 (m : Int))] Try.func43 rfl rfl rfl rfl rfl ?_
  have hL := Lcl.start w
  refine W_seqr ?_
  refine S_alloc zr25 rfl rfl hL ?_
  intro w1 b1 hL1 hle1 _
  refine S_seqnil ?_
  refine W_seq ?_
  refine W_seqr ?_
  refine S_pu 2 rfl ?_
  refine S_slice rfl Try.underlying23 zr32 hl (m) (l.length) ⟨_, rfl⟩ rfl (by omega) rfl ?_
  intro v2 hv2
  rw [List.take_of_length_le (by simp)] at hv2
  refine S_v (r_len rfl Try.underlying23 hv2) rfl ?_
  refine S_pu 1 rfl ?_
  refine S_seqnil ?_
  refine W_block ?_
  refine W_loop (σ := Nat) (fun k => [(11, .int .i64 (k : Int)), (0, lv), (1, .int .i64 (m : Int)), (4, .pointer (some ⟨b1, 0, none⟩)), (9, v2), (10, .int .i64 (((l.drop m)).length : Int))]) (fun k wr => Lcl w [.box b1 [.int .i64 0, .int .i64 0] 25] wr ∧ k ≤ l.length - m ∧ M.frF l m (l.length - m - k) (m + k) = M.frg l m) (fun k => l.length - m - k) 0 (.cons rfl (.cons rfl (.cons rfl (.cons rfl (.cons rfl (.cons rfl (Sub.nil _))))))) ⟨hL1, Nat.zero_le _, rfl⟩ ?_
  rintro k wr3 ⟨hL3, hkl, hfr⟩
  refine W_seqr ?_
  refine S_pu 1 rfl ?_
  refine S_seqnil ?_
  refine W_seq ?_
  refine W_if rfl (fun hck => ?_) (fun hck => ?_)
  · have hlk : k < l.length - m := (by simp only [List.length_drop] at hck; omega)
    have hk0 := (hg.k (m + k) (by omega)).1
    rw [← getD_drop] at hk0
    refine W_skip ?_
    refine At_seq ?_
    refine W_seq ?_
    refine W_block ?_
    refine W_seqr ?_
    refine S_pu 1 rfl ?_
    refine S_index rfl rfl Try.underlying23 zr32 hv2 k rfl (by rw [List.length_drop]; omega) rfl ?_
    rintro p4 _ ⟨_, _, rfl, rfl, e4v, rfl, e4h⟩ hp4
    refine S_v (r_loadN rfl Try.underlying32 rfl zr32 hp4 hL3.arg) rfl ?_
    refine S_alloc zr32 rfl rfl hL3 ?_
    intro w5 b5 hL5 hle5 _
    refine S_pu 1 rfl ?_
    refine S_storeBN 0 rfl rfl rfl zr32 hL5 rfl rfl (onc rfl (onc e4h.one on0)) ?_
    intro w6 hL6 hle6
    refine S_seqnil ?_
    refine W_seqd (.q 0 (.q 1 (.q 2 (.q 3 (.q 4 (.q 5 (.tail 6))))))) mixed (by kernel_rfl) (fun w7 hx7 => ?_)
    have hL8 := hL6.call hx7
    refine D_pu 2 rfl ?_
    refine D_slice rfl rfl Try.underlying23 zr32 hl (0) (m) rfl ⟨_, rfl⟩ (by omega) rfl ?_
    intro v9 hv9
    simp only [List.drop_zero, Nat.sub_zero] at hv9
    refine D_v (r_loadBN 0 rfl Try.underlying32 rfl zr32 hL8 rfl) rfl rfl ?_
    refine D_call rfl rfl rfl (fun w10 hx10 => fits_ok _ (hv9.mono (hL8.call hx10).arg) (by assumption) (by assumption) (e4h.mono (hL8.call hx10).arg) (by assumption)) ?_
    refine D_pu 1 rfl ?_
    refine D_tail (fun w11 hx11 => ?_)
    have hL12 := hL8.call hx11
    refine S_seqnil ?_
    refine W_ifn rfl (fun hc => ?_) (fun hc => ?_)
    · rw [getD_drop] at hc
      refine W_seqr ?_
      refine S_pu 2 rfl ?_
      refine S_v (r_ar64 rfl rfl rfl (by omega)) rfl ?_
      refine S_callL rfl rfl hL12 (sfault_ok _ ) ?_
      rintro _ w13 rfl hx13 hL13 hle13
      refine S_storeBN 1 rfl rfl rfl zr25 hL13 rfl rfl (onc rfl (onc rfl on0)) ?_
      intro w14 hL14 hle14
      refine S_seqnil ?_
      refine W_ret ?_
      refine At_block_ret ?_
      refine At_seq_ret ?_
      refine At_loop_ret ?_
      refine At_block_ret ?_
      refine At_seq_ret ?_
      refine At_got1 rfl (.cell rfl Try.underlying25 rfl zr25 (box_ptr (i := 1) hL14 rfl)) ?_
      exact ⟨hL14.ext, by rw [frg_hit hfr hlk hc]; rfl⟩
    · rw [getD_drop] at hc
      refine W_skip ?_
      refine At_block ?_
      refine At_seq ?_
      refine W_region ?_
      refine S_v (r_ar64 rfl rfl rfl (by omega)) rfl ?_
      refine S_pu 1 rfl ?_
      refine S_nil ?_
      have hL15 := hL12.dropAt (i := 0) rfl
      refine At_round (k + 1) (.int rfl (by omega) (.cons rfl (.cons rfl (.cons rfl (.cons rfl (.cons rfl (Sub.nil _))))))) ⟨hL15, by omega, frg_next hfr (by omega) hc⟩ (by omega)
  · have hlk : k = l.length - m := (by simp only [List.length_drop] at hck; omega)
    refine W_exit ?_
    refine At_seq_exit ?_
    refine At_loop_exit ?_
    refine At_exit ?_
    refine At_seq ?_
    refine W_seqr ?_
    refine S_v (r_build rfl (fun _ => bld25_z _)) rfl ?_
    refine S_storeBN 0 rfl rfl rfl zr25 hL3 rfl rfl (onc rfl (onc rfl on0)) ?_
    intro w16 hL16 hle16
    refine S_seqnil ?_
    refine W_ret ?_
    refine At_got1 rfl (.cell rfl Try.underlying25 rfl zr25 (box_ptr (i := 0) hL16 rfl)) ?_
    exact ⟨hL16.ext, by subst hlk; rw [Nat.sub_self] at hfr; rw [← hfr]; rfl⟩
end Go.Proofs.Ytidedcbaahiplaa
