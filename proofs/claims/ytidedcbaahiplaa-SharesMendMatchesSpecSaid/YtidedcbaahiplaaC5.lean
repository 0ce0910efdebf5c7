/- Contracts: Mend and what it calls. -/
import Derived.Test.YtidedcbaahiplaaC4
import Derived.Test.YtidedcbaahiplaaSpecB
import Derived.KernelRfl
namespace Go.Proofs.Ytidedcbaahiplaa
open Go Go.E Go.RowKit
theorem push_row (v4 : Value) (ch : List Int) (i : Int) (O : List Res) : nthR (.row v4 3 1 (ch.length + 1) (ch.map iv ++ [.int .i64 i]) :: O) 0 = some (.row v4 3 (Rp.int .i64).sz (ch ++ [i]).length ((ch ++ [i]).map iv)) := by
  rw [List.length_append, List.map_append]; rfl

theorem lcl_refl {w0 w : World} {O : List Res} (_ : Lcl w0 O w) : Le (fz w O) (fz w O) := Le.refl _
theorem iv_push (acc : List Int) (i : Int) : (acc ++ [i]).map iv = acc.map iv ++ [.int .i64 i] := by simp [iv]

set_option maxRecDepth 10000 in
theorem mclos_ok {w0 w : World} {O : List Res} {bw bs bf bl bm : Nat} {wv sv fv lv cv : Value} {l : List M.Sh} {ch : List Int} {most : Int} (hL : Lcl w0 (.box bw [wv] 43 :: .box bs [sv] 22 :: .box bf [fv] 4 :: .box bl [lv] 23 :: .box bm [.int .i64 most] 3 :: O) w) (hl : Vec shr (fz w (.box bw [wv] 43 :: .box bs [sv] 22 :: .box bf [fv] 4 :: .box bl [lv] 23 :: .box bm [.int .i64 most] 3 :: O)) lv l) (hc : Vec (.int .i64) (fz w (.box bw [wv] 43 :: .box bs [sv] 22 :: .box bf [fv] 4 :: .box bl [lv] 23 :: .box bm [.int .i64 most] 3 :: O)) cv ch) (hg : M.Good l) (hci : M.Ins l ch) (h0 : 0 < ch.length) (hcn : ch.length ≤ 11) :
    Ok Try.prog 47 [cv, .pointer (some ⟨bl, 0, none⟩), .pointer (some ⟨bw, 0, none⟩), .pointer (some ⟨bm, 0, none⟩), .pointer (some ⟨bs, 0, none⟩), .pointer (some ⟨bf, 0, none⟩)] w (fun v w' => ∃ wv' sv' fv', v = .bool (M.mst l most ch).isNone ∧ Lcl w0 (.box bw [wv'] 43 :: .box bs [sv'] 22 :: .box bf [fv'] 4 :: .box bl [lv] 23 :: .box bm [.int .i64 most] 3 :: O) w' ∧ Le (fz w (.box bw [wv] 43 :: .box bs [sv] 22 :: .box bf [fv] 4 :: .box bl [lv] 23 :: .box bm [.int .i64 most] 3 :: O)) (fz w' (.box bw [wv'] 43 :: .box bs [sv'] 22 :: .box bf [fv'] 4 :: .box bl [lv] 23 :: .box bm [.int .i64 most] 3 :: O)) ∧ ((M.mst l most ch) = none → sv' = sv ∧ fv' = fv) ∧ (∀ x, (M.mst l most ch) = some x → fv' = .bool true ∧ Vec .byte (nf w0 w' (.box bw [wv'] 43 :: .box bs [sv'] 22 :: .box bf [fv'] 4 :: .box bl [lv] 23 :: .box bm [.int .i64 most] 3 :: O)) sv' x.1 ∧ Vec (.int .i64) (nf w0 w' (.box bw [wv'] 43 :: .box bs [sv'] 22 :: .box bf [fv'] 4 :: .box bl [lv] 23 :: .box bm [.int .i64 most] 3 :: O)) wv' x.2)) := by
  have hcl := hc.len_le
  have hll := hl.len_le
  have hgn := hg.n
  have hk0 := Le.refl (fz w (.box bw [wv] 43 :: .box bs [sv] 22 :: .box bf [fv] 4 :: .box bl [lv] 23 :: .box bm [.int .i64 most] 3 :: O))
  refine Ok_enter (n := 49) [(0, cv), (1, .pointer (some ⟨bl, 0, none⟩)), (2, .pointer (some ⟨bw, 0, none⟩)), (3, .pointer (some ⟨bm, 0, none⟩)), (4, .pointer (some ⟨bs, 0, none⟩)), (5, .pointer (some ⟨bf, 0, none⟩))] Try.func47 rfl rfl rfl rfl rfl ?_
  refine W_seqr ?_
  refine S_pu 1 rfl ?_
  refine S_seqnil ?_
  refine W_seqr ?_
  refine S_pu 1 rfl ?_
  refine S_seqnil ?_
  refine W_seq ?_
  refine W_seqr ?_
  refine S_pu 1 rfl ?_
  refine S_v (r_len rfl Try.underlying43 hc) rfl ?_
  refine S_pu 1 rfl ?_
  refine S_seqnil ?_
  refine W_block ?_
  refine W_loop (σ := Nat × Value × List Value) (fun (⟨k, ov, xs⟩ : Nat × Value × List Value) => [(8, ov), (15, .int .i64 (k : Int)), (1, .pointer (some ⟨bl, 0, none⟩)), (2, .pointer (some ⟨bw, 0, none⟩)), (3, .pointer (some ⟨bm, 0, none⟩)), (4, .pointer (some ⟨bs, 0, none⟩)), (5, .pointer (some ⟨bf, 0, none⟩)), (7, .bool false), (13, cv), (14, .int .i64 ((ch).length : Int))]) (fun (⟨k, ov, xs⟩ : Nat × Value × List Value) wr => Lcl w0 (.row ov 32 2 k xs :: .box bw [wv] 43 :: .box bs [sv] 22 :: .box bf [fv] 4 :: .box bl [lv] 23 :: .box bm [.int .i64 most] 3 :: O) wr ∧ k ≤ ch.length ∧ Vec shr (fz wr (.row ov 32 2 k xs :: .box bw [wv] 43 :: .box bs [sv] 22 :: .box bf [fv] 4 :: .box bl [lv] 23 :: .box bm [.int .i64 most] 3 :: O)) lv l ∧ Vec (.int .i64) (fz wr (.row ov 32 2 k xs :: .box bw [wv] 43 :: .box bs [sv] 22 :: .box bf [fv] 4 :: .box bl [lv] 23 :: .box bm [.int .i64 most] 3 :: O)) cv ch ∧ Le (fz w (.box bw [wv] 43 :: .box bs [sv] 22 :: .box bf [fv] 4 :: .box bl [lv] 23 :: .box bm [.int .i64 most] 3 :: O)) (fz wr (.row ov 32 2 k xs :: .box bw [wv] 43 :: .box bs [sv] 22 :: .box bf [fv] 4 :: .box bl [lv] 23 :: .box bm [.int .i64 most] 3 :: O)) ∧ Elems shr (fz wr (.row ov 32 2 k xs :: .box bw [wv] 43 :: .box bs [sv] 22 :: .box bf [fv] 4 :: .box bl [lv] 23 :: .box bm [.int .i64 most] 3 :: O)) (M.pk l (ch.take k)) xs) (fun (⟨k, ov, xs⟩ : Nat × Value × List Value) => ch.length - k) (0, .slice none 0 0, []) (.cons rfl (.cons rfl (.cons rfl (.cons rfl (.cons rfl (.cons rfl (.cons rfl (.cons rfl (.cons rfl (.cons rfl (Sub.nil _))))))))))) ⟨(row_nil hL 32 2).1, Nat.zero_le _, hl.mono (row_nil hL 32 2).2, hc.mono (row_nil hL 32 2).2, hk0.mono (row_nil hL 32 2).2, .nil⟩ ?_
  rintro ⟨k, ov, xs⟩ wr1 ⟨hL1, hkl, hl1, hc1, hk1, he1⟩
  refine W_seqr ?_
  refine S_pu 1 rfl ?_
  refine S_seqnil ?_
  refine W_seq ?_
  refine W_if rfl (fun hc2 => ?_) (fun hc2 => ?_)
  · have hck := hci k (by omega)
    have hcm : ch.getD k default = (((ch.getD k default).toNat : Nat) : Int) := (by omega)
    refine W_skip ?_
    refine At_seq ?_
    refine W_seq ?_
    refine W_block ?_
    refine W_seqr ?_
    refine S_index rfl rfl Try.underlying43 zr3 hc1 k rfl (by omega) rfl ?_
    rintro p3 _ rfl hp3
    refine S_v (r_load1 rfl Try.underlying3 rfl hp3 (fz_le _ _)) rfl ?_
    refine S_pu 1 rfl ?_
    refine S_seqnil ?_
    refine W_region ?_
    refine S_pu 1 rfl ?_
    refine S_v (r_loadB1 4 rfl Try.underlying23 rfl hL1 rfl rfl) rfl ?_
    refine S_pu 1 rfl ?_
    refine S_index rfl rfl Try.underlying23 zr32 hl1 (ch.getD k default).toNat (by omega) (by omega) rfl ?_
    rintro p4 _ ⟨_, _, rfl, rfl, e4v, rfl, e4h⟩ hp4
    refine S_v (r_loadN rfl Try.underlying32 rfl zr32 hp4 (fz_le _ _)) rfl ?_
    refine S_lit (sz := 2) rfl (fun _ => bsl23_1 _ _ _) rfl (by decide) rfl hL1 ?_
    intro v5 w5 hx5 hL5 hle5 hs5 ho5
    replace hl1 := hl1.mono hle5
    replace hc1 := hc1.mono hle5
    replace hk1 := hk1.mono hle5
    replace he1 := he1.mono hle5
    replace hp3 := hp3.mono hle5
    replace hp4 := hp4.mono hle5
    replace e4h := e4h.mono hle5
    replace hs5 := hs5.mono (nw_fz hL1)
    refine S_append 0 rfl rfl Try.underlying23 zr32 rfl (by decide) rfl hL5 rfl (hs5.mono (fz_le _ _)) (onc rfl (onc e4h.one on0)) (by omega) ?_
    intro v6 w6 hL6 hle6
    replace hl1 := hl1.mono hle6
    replace hc1 := hc1.mono hle6
    replace hk1 := hk1.mono hle6
    replace he1 := he1.mono hle6
    replace hp3 := hp3.mono hle6
    replace hp4 := hp4.mono hle6
    replace e4h := e4h.mono hle6
    replace hs5 := hs5.mono hle6
    refine S_pu 1 rfl ?_
    refine S_nil ?_
    refine At_block ?_
    refine At_seq ?_
    refine W_region ?_
    refine S_v (r_ar64 rfl rfl rfl (by omega)) rfl ?_
    refine S_pu 1 rfl ?_
    refine S_nil ?_
    refine At_round (k + 1, v6, _) (.cons rfl (.int rfl (by omega) (.cons rfl (.cons rfl (.cons rfl (.cons rfl (.cons rfl (.cons rfl (.cons rfl (.cons rfl (Sub.nil _))))))))))) ⟨hL6, by omega, hl1, hc1, hk1, (by rw [M.pk_succ (by omega)]; exact he1.append (.single ⟨_, _, rfl, rfl, _, rfl, e4h⟩))⟩ (by show ch.length - (k + 1) < ch.length - k; omega)
  · refine W_exit ?_
    refine At_seq_exit ?_
    refine At_loop_exit ?_
    refine At_exit ?_
    refine At_seq ?_
    refine W_seqr ?_
    obtain rfl : k = ch.length := (by omega)
    rw [List.take_length] at he1
    have hv7 : Vec shr _ _ (M.pk l ch) := hL1.vecD2 (i := 0) rfl (by rw [M.pk_length]) he1
    have hL7 := hL1.dropAt (i := 0) rfl
    replace hl1 := hl1.mono (fz_dropAt (i := 0) rfl)
    replace hc1 := hc1.mono (fz_dropAt (i := 0) rfl)
    replace hk1 := hk1.mono (fz_dropAt (i := 0) rfl)
    replace he1 := he1.mono (fz_dropAt (i := 0) rfl)
    have hgp := M.pk_good hg hci h0 hcn
    have h0p : 0 < (M.pk l ch).length := (by rw [M.pk_length]; exact h0)
    clear he1
    refine S_storeB1 0 rfl rfl rfl zr43 hL7 rfl rfl ?_
    intro w8 hL8 hle8
    replace hl1 := hl1.mono hle8
    replace hc1 := hc1.mono hle8
    replace hk1 := hk1.mono hle8
    replace hv7 := hv7.mono hle8
    refine S_seqnil ?_
    refine W_seq ?_
    refine W_seqr ?_
    refine S_v (r_loadB1 3 rfl Try.underlying23 rfl hL8 rfl rfl) rfl ?_
    refine S_v (r_len rfl Try.underlying23 hl1) rfl ?_
    refine S_pu 1 rfl ?_
    refine S_seqnil ?_
    refine W_block ?_
    refine W_loop (σ := Nat × Value × List Int) (fun (⟨i, wv2, acc⟩ : Nat × Value × List Int) => [(29, .int .i64 (i : Int)), (2, .pointer (some ⟨bw, 0, none⟩)), (3, .pointer (some ⟨bm, 0, none⟩)), (4, .pointer (some ⟨bs, 0, none⟩)), (5, .pointer (some ⟨bf, 0, none⟩)), (8, ov), (27, lv), (28, .int .i64 ((l).length : Int))]) (fun (⟨i, wv2, acc⟩ : Nat × Value × List Int) wr => Lcl w0 (.row wv2 3 1 acc.length (acc.map iv) :: .box bw [wv2] 43 :: .box bs [sv] 22 :: .box bf [fv] 4 :: .box bl [lv] 23 :: .box bm [.int .i64 most] 3 :: O) wr ∧ i ≤ l.length ∧ acc.length ≤ i ∧ M.wrF (M.pk l ch) l most (l.length - i) i acc = M.wrF (M.pk l ch) l most l.length 0 [] ∧ Vec shr (fz wr (.row wv2 3 1 acc.length (acc.map iv) :: .box bw [wv2] 43 :: .box bs [sv] 22 :: .box bf [fv] 4 :: .box bl [lv] 23 :: .box bm [.int .i64 most] 3 :: O)) lv l ∧ Vec shr (fz wr (.row wv2 3 1 acc.length (acc.map iv) :: .box bw [wv2] 43 :: .box bs [sv] 22 :: .box bf [fv] 4 :: .box bl [lv] 23 :: .box bm [.int .i64 most] 3 :: O)) ov (M.pk l ch) ∧ Le (fz w (.box bw [wv] 43 :: .box bs [sv] 22 :: .box bf [fv] 4 :: .box bl [lv] 23 :: .box bm [.int .i64 most] 3 :: O)) (fz wr (.row wv2 3 1 acc.length (acc.map iv) :: .box bw [wv2] 43 :: .box bs [sv] 22 :: .box bf [fv] 4 :: .box bl [lv] 23 :: .box bm [.int .i64 most] 3 :: O))) (fun (⟨i, wv2, acc⟩ : Nat × Value × List Int) => l.length - i) (0, .slice none 0 0, []) (.cons rfl (.cons rfl (.cons rfl (.cons rfl (.cons rfl (.cons rfl (.cons rfl (.cons rfl (Sub.nil _))))))))) ⟨(row_nil hL8 3 1).1, Nat.zero_le _, Nat.le_refl _, rfl, hl1.mono (row_nil hL8 3 1).2, hv7.mono (row_nil hL8 3 1).2, hk1.mono (row_nil hL8 3 1).2⟩ ?_
    rintro ⟨i, wv2, acc⟩ wr9 ⟨hL9, hil, hai, hwr, hl9, hb9, hk9⟩
    refine W_seqr ?_
    refine S_pu 1 rfl ?_
    refine S_seqnil ?_
    refine W_seq ?_
    refine W_if rfl (fun hc10 => ?_) (fun hc10 => ?_)
    · have hk1 := (hg.k i (by omega)).1
      refine W_skip ?_
      refine At_seq ?_
      refine W_seq ?_
      refine W_block ?_
      refine W_seqr ?_
      refine S_pu 1 rfl ?_
      refine S_index rfl rfl Try.underlying23 zr32 hl9 i rfl (by omega) rfl ?_
      rintro p11 _ ⟨_, _, rfl, rfl, e11v, rfl, e11h⟩ hp11
      refine S_v (r_loadN rfl Try.underlying32 rfl zr32 hp11 (fz_le _ _)) rfl ?_
      refine S_alloc zr32 rfl rfl hL9 ?_
      intro w12 b12 hL12 hle12 _
      replace hl9 := hl9.mono hle12
      replace hb9 := hb9.mono hle12
      replace hk9 := hk9.mono hle12
      replace hp11 := hp11.mono hle12
      replace e11h := e11h.mono hle12
      refine S_pu 1 rfl ?_
      refine S_storeBN 0 rfl rfl rfl zr32 hL12 rfl rfl (onc rfl (onc e11h.one on0)) ?_
      intro w13 hL13 hle13
      replace hl9 := hl9.mono hle13
      replace hb9 := hb9.mono hle13
      replace hk9 := hk9.mono hle13
      replace hp11 := hp11.mono hle13
      replace e11h := e11h.mono hle13
      refine S_seqnil ?_
      refine W_seqr ?_
      refine S_pu 1 rfl ?_
      refine S_v (r_loadBN 0 rfl Try.underlying32 rfl zr32 hL13 rfl) rfl ?_
      refine S_callL rfl rfl hL13 (fits_ok _ (hb9.mono (fz_le _ _)) hgp h0p (e11h.mono (fz_le _ _)) hk1) ?_
      rintro _ w14 rfl hx14 hL14 hle14
      replace hl9 := hl9.mono hle14
      replace hb9 := hb9.mono hle14
      replace hk9 := hk9.mono hle14
      replace hp11 := hp11.mono hle14
      replace e11h := e11h.mono hle14
      refine S_pu 1 rfl ?_
      refine S_seqnil ?_
      refine W_ifn rfl (fun hfit => ?_) (fun hfit => ?_)
      · refine W_seqr ?_
        refine S_v (r_loadB1 2 rfl Try.underlying43 rfl hL14 rfl rfl) rfl ?_
        refine S_pu 1 rfl ?_
        refine S_lit (sz := 1) rfl (fun _ => bsl43_1 _ _) rfl (by decide) rfl hL14 ?_
        intro v15 w15 hx15 hL15 hle15 hs15 ho15
        replace hl9 := hl9.mono hle15
        replace hb9 := hb9.mono hle15
        replace hk9 := hk9.mono hle15
        replace hp11 := hp11.mono hle15
        replace e11h := e11h.mono hle15
        replace hs15 := hs15.mono (nw_fz hL14)
        refine S_append 1 rfl rfl Try.underlying43 zr3 rfl (by decide) rfl hL15 rfl (hs15.mono (fz_le _ _)) (onc rfl on0) (by omega) ?_
        intro v16 w16 hL16 hle16
        replace hl9 := hl9.mono hle16
        replace hb9 := hb9.mono hle16
        replace hk9 := hk9.mono hle16
        replace hp11 := hp11.mono hle16
        replace e11h := e11h.mono hle16
        replace hs15 := hs15.mono hle16
        refine S_storeB1 2 rfl rfl (row_one (hL16.at (i := 1) rfl)) zr43 hL16 rfl rfl ?_
        intro w17 hL17 hle17
        replace hl9 := hl9.mono hle17
        replace hb9 := hb9.mono hle17
        replace hk9 := hk9.mono hle17
        replace hp11 := hp11.mono hle17
        replace e11h := e11h.mono hle17
        replace hs15 := hs15.mono hle17
        refine S_seqnil ?_
        refine W_seqr ?_
        refine S_v (r_loadB1 2 rfl Try.underlying43 rfl hL17 rfl rfl) rfl ?_
        refine S_v (r_lenR (i := 1) rfl Try.underlying43 hL17 rfl) rfl ?_
        refine S_v (r_loadB1 6 rfl Try.underlying3 rfl hL17 rfl rfl) rfl ?_
        refine S_pu 1 rfl ?_
        refine S_seqnil ?_
        refine W_if rfl (fun hmost => ?_) (fun hmost => ?_)
        · refine W_seqr ?_
          refine S_pu 1 rfl ?_
          refine S_seqnil ?_
          refine W_ret ?_
          refine At_block_ret ?_
          refine At_seq_ret ?_
          refine At_loop_ret ?_
          refine At_block_ret ?_
          refine At_seq_ret ?_
          refine At_body rfl rfl ?_
          have hL18 := hL17.dropAt (i := 0) rfl
          replace hl9 := hl9.mono (fz_dropAt (i := 0) rfl)
          replace hb9 := hb9.mono (fz_dropAt (i := 0) rfl)
          replace hk9 := hk9.mono (fz_dropAt (i := 0) rfl)
          replace hp11 := hp11.mono (fz_dropAt (i := 0) rfl)
          replace e11h := e11h.mono (fz_dropAt (i := 0) rfl)
          replace hs15 := hs15.mono (fz_dropAt (i := 0) rfl)
          have hL19 := hL18.dropAt (i := 0) rfl
          replace hl9 := hl9.mono (fz_dropAt (i := 0) rfl)
          replace hb9 := hb9.mono (fz_dropAt (i := 0) rfl)
          replace hk9 := hk9.mono (fz_dropAt (i := 0) rfl)
          replace hp11 := hp11.mono (fz_dropAt (i := 0) rfl)
          replace e11h := e11h.mono (fz_dropAt (i := 0) rfl)
          replace hs15 := hs15.mono (fz_dropAt (i := 0) rfl)
          have er := M.mst_none (M.wr_over hwr (by omega) hfit hmost)
          exact ⟨_, _, _, by rw [er]; rfl, hL19, hk9, fun _ => ⟨rfl, rfl⟩, fun x hx => by rw [er] at hx; cases hx⟩
        · refine W_skip ?_
          refine At_block ?_
          refine At_seq ?_
          refine W_region ?_
          refine S_v (r_ar64 rfl rfl rfl (by omega)) rfl ?_
          refine S_pu 1 rfl ?_
          refine S_nil ?_
          have hL20 := hL17.dropAt (i := 0) rfl
          replace hl9 := hl9.mono (fz_dropAt (i := 0) rfl)
          replace hb9 := hb9.mono (fz_dropAt (i := 0) rfl)
          replace hk9 := hk9.mono (fz_dropAt (i := 0) rfl)
          replace hp11 := hp11.mono (fz_dropAt (i := 0) rfl)
          replace e11h := e11h.mono (fz_dropAt (i := 0) rfl)
          replace hs15 := hs15.mono (fz_dropAt (i := 0) rfl)
          refine At_round (i + 1, v16, _) (.int rfl (by omega) (.cons rfl (.cons rfl (.cons rfl (.cons rfl (.cons rfl (.cons rfl (.cons rfl (Sub.nil _))))))))) ⟨(by have h := hL20; rw [List.length_append, iv_push]; exact h), by omega, (by rw [List.length_append]; exact Nat.succ_le_succ hai), M.wr_push hwr (by omega) hfit hmost, (by have h := hl9; rw [List.length_append, iv_push]; exact h), (by have h := hb9; rw [List.length_append, iv_push]; exact h), (by have h := hk9; rw [List.length_append, iv_push]; exact h)⟩ (by show l.length - (i + 1) < l.length - i; omega)
      · refine W_skip ?_
        refine At_block ?_
        refine At_seq ?_
        refine W_region ?_
        refine S_v (r_ar64 rfl rfl rfl (by omega)) rfl ?_
        refine S_pu 1 rfl ?_
        refine S_nil ?_
        have hL21 := hL14.dropAt (i := 0) rfl
        replace hl9 := hl9.mono (fz_dropAt (i := 0) rfl)
        replace hb9 := hb9.mono (fz_dropAt (i := 0) rfl)
        replace hk9 := hk9.mono (fz_dropAt (i := 0) rfl)
        replace hp11 := hp11.mono (fz_dropAt (i := 0) rfl)
        replace e11h := e11h.mono (fz_dropAt (i := 0) rfl)
        refine At_round (i + 1, wv2, acc) (.int rfl (by omega) (.cons rfl (.cons rfl (.cons rfl (.cons rfl (.cons rfl (.cons rfl (.cons rfl (Sub.nil _))))))))) ⟨hL21, by omega, by omega, M.wr_next hwr (by omega) hfit, hl9, hb9, hk9⟩ (by show l.length - (i + 1) < l.length - i; omega)
    · refine W_exit ?_
      refine At_seq_exit ?_
      refine At_loop_exit ?_
      refine At_exit ?_
      refine At_seq ?_
      refine W_seqr ?_
      refine S_pu 1 rfl ?_
      refine S_callL rfl rfl hL9 (at_ok (x := 0) _ (hb9.mono (fz_le _ _)) hgp h0p) ?_
      intro v22 w22 hR22 hx22 _ _
      have hv22 := hR22.vec.mono (nw_nf hL9)
      have hL22 := hL9.call hx22
      have hle22 := fz_ext hL9 hx22
      replace hl9 := hl9.mono hle22
      replace hb9 := hb9.mono hle22
      replace hk9 := hk9.mono hle22
      refine S_storeB1 2 rfl rfl hv22.one zr22 hL22 rfl rfl ?_
      intro w23 hL23 hle23
      replace hl9 := hl9.mono hle23
      replace hb9 := hb9.mono hle23
      replace hk9 := hk9.mono hle23
      replace hv22 := hv22.mono (nf_mono hle23)
      refine S_storeB1 3 rfl rfl rfl zr4 hL23 rfl rfl ?_
      intro w24 hL24 hle24
      replace hl9 := hl9.mono hle24
      replace hb9 := hb9.mono hle24
      replace hk9 := hk9.mono hle24
      replace hv22 := hv22.mono (nf_mono hle24)
      refine S_seqnil ?_
      refine W_seqr ?_
      refine S_pu 1 rfl ?_
      refine S_seqnil ?_
      refine W_ret ?_
      refine At_body rfl rfl ?_
      have hv25 : Vec (.int .i64) _ _ (acc) := hL24.vecDN (i := 0) rfl rfl (elems_ints _ _)
      have hL25 := hL24.dropAt (i := 0) rfl
      replace hl9 := hl9.mono (fz_dropAt (i := 0) rfl)
      replace hb9 := hb9.mono (fz_dropAt (i := 0) rfl)
      replace hk9 := hk9.mono (fz_dropAt (i := 0) rfl)
      replace hv22 := hv22.mono (nf_mono (fz_dropAt (i := 0) rfl))
      have er := M.mst_some (M.wr_end hwr (by omega))
      exact ⟨_, _, _, by rw [er]; rfl, hL25, hk9, fun hx => (by rw [er] at hx; cases hx), fun x hx => by rw [er] at hx; cases hx; exact ⟨rfl, hv22, hv25⟩⟩

def VisSt (w0 : World) (O : List Res) (bw bs bf bl bm bv bfn bk bn : Nat) (lv : Value) (l : List M.Sh) (most : Int) (k : Nat) (d : Nat) : Prop := ∀ (w : World) (wv sv fv cv : Value) (ch : List Int), Lcl w0 (.box bw [wv] 43 :: .box bs [sv] 22 :: .box bf [fv] 4 :: .box bl [lv] 23 :: .box bm [.int .i64 most] 3 :: .box bv [.func (.func 59) #[] #[.pointer (some ⟨bk, 0, none⟩), .pointer (some ⟨bfn, 0, none⟩), .pointer (some ⟨bn, 0, none⟩), .pointer (some ⟨bv, 0, none⟩)]] 82 :: .box bfn [.func (.func 47) #[] #[.pointer (some ⟨bl, 0, none⟩), .pointer (some ⟨bw, 0, none⟩), .pointer (some ⟨bm, 0, none⟩), .pointer (some ⟨bs, 0, none⟩), .pointer (some ⟨bf, 0, none⟩)]] 75 :: .box bk [.int .i64 (k : Int)] 3 :: .box bn [.int .i64 (l.length : Int)] 3 :: O) w → Vec shr (fz w (.box bw [wv] 43 :: .box bs [sv] 22 :: .box bf [fv] 4 :: .box bl [lv] 23 :: .box bm [.int .i64 most] 3 :: .box bv [.func (.func 59) #[] #[.pointer (some ⟨bk, 0, none⟩), .pointer (some ⟨bfn, 0, none⟩), .pointer (some ⟨bn, 0, none⟩), .pointer (some ⟨bv, 0, none⟩)]] 82 :: .box bfn [.func (.func 47) #[] #[.pointer (some ⟨bl, 0, none⟩), .pointer (some ⟨bw, 0, none⟩), .pointer (some ⟨bm, 0, none⟩), .pointer (some ⟨bs, 0, none⟩), .pointer (some ⟨bf, 0, none⟩)]] 75 :: .box bk [.int .i64 (k : Int)] 3 :: .box bn [.int .i64 (l.length : Int)] 3 :: O)) lv l → Vec (.int .i64) (fz w (.box bw [wv] 43 :: .box bs [sv] 22 :: .box bf [fv] 4 :: .box bl [lv] 23 :: .box bm [.int .i64 most] 3 :: .box bv [.func (.func 59) #[] #[.pointer (some ⟨bk, 0, none⟩), .pointer (some ⟨bfn, 0, none⟩), .pointer (some ⟨bn, 0, none⟩), .pointer (some ⟨bv, 0, none⟩)]] 82 :: .box bfn [.func (.func 47) #[] #[.pointer (some ⟨bl, 0, none⟩), .pointer (some ⟨bw, 0, none⟩), .pointer (some ⟨bm, 0, none⟩), .pointer (some ⟨bs, 0, none⟩), .pointer (some ⟨bf, 0, none⟩)]] 75 :: .box bk [.int .i64 (k : Int)] 3 :: .box bn [.int .i64 (l.length : Int)] 3 :: O)) cv ch → M.Ins l ch → ch.length ≤ k → d ≤ l.length →
    Ok Try.prog 59 [cv, .int .i64 ((l.length - d : Nat) : Int), .pointer (some ⟨bk, 0, none⟩), .pointer (some ⟨bfn, 0, none⟩), .pointer (some ⟨bn, 0, none⟩), .pointer (some ⟨bv, 0, none⟩)] w (fun v w' => ∃ wv' sv' fv', v = .bool (M.vis (M.mst l most) k l.length d ch).isNone ∧ Lcl w0 (.box bw [wv'] 43 :: .box bs [sv'] 22 :: .box bf [fv'] 4 :: .box bl [lv] 23 :: .box bm [.int .i64 most] 3 :: .box bv [.func (.func 59) #[] #[.pointer (some ⟨bk, 0, none⟩), .pointer (some ⟨bfn, 0, none⟩), .pointer (some ⟨bn, 0, none⟩), .pointer (some ⟨bv, 0, none⟩)]] 82 :: .box bfn [.func (.func 47) #[] #[.pointer (some ⟨bl, 0, none⟩), .pointer (some ⟨bw, 0, none⟩), .pointer (some ⟨bm, 0, none⟩), .pointer (some ⟨bs, 0, none⟩), .pointer (some ⟨bf, 0, none⟩)]] 75 :: .box bk [.int .i64 (k : Int)] 3 :: .box bn [.int .i64 (l.length : Int)] 3 :: O) w' ∧ Le (fz w (.box bw [wv] 43 :: .box bs [sv] 22 :: .box bf [fv] 4 :: .box bl [lv] 23 :: .box bm [.int .i64 most] 3 :: .box bv [.func (.func 59) #[] #[.pointer (some ⟨bk, 0, none⟩), .pointer (some ⟨bfn, 0, none⟩), .pointer (some ⟨bn, 0, none⟩), .pointer (some ⟨bv, 0, none⟩)]] 82 :: .box bfn [.func (.func 47) #[] #[.pointer (some ⟨bl, 0, none⟩), .pointer (some ⟨bw, 0, none⟩), .pointer (some ⟨bm, 0, none⟩), .pointer (some ⟨bs, 0, none⟩), .pointer (some ⟨bf, 0, none⟩)]] 75 :: .box bk [.int .i64 (k : Int)] 3 :: .box bn [.int .i64 (l.length : Int)] 3 :: O)) (fz w' (.box bw [wv'] 43 :: .box bs [sv'] 22 :: .box bf [fv'] 4 :: .box bl [lv] 23 :: .box bm [.int .i64 most] 3 :: .box bv [.func (.func 59) #[] #[.pointer (some ⟨bk, 0, none⟩), .pointer (some ⟨bfn, 0, none⟩), .pointer (some ⟨bn, 0, none⟩), .pointer (some ⟨bv, 0, none⟩)]] 82 :: .box bfn [.func (.func 47) #[] #[.pointer (some ⟨bl, 0, none⟩), .pointer (some ⟨bw, 0, none⟩), .pointer (some ⟨bm, 0, none⟩), .pointer (some ⟨bs, 0, none⟩), .pointer (some ⟨bf, 0, none⟩)]] 75 :: .box bk [.int .i64 (k : Int)] 3 :: .box bn [.int .i64 (l.length : Int)] 3 :: O)) ∧ ((M.vis (M.mst l most) k l.length d ch) = none → sv' = sv ∧ fv' = fv) ∧ (∀ x, (M.vis (M.mst l most) k l.length d ch) = some x → fv' = .bool true ∧ Vec .byte (nf w0 w' (.box bw [wv'] 43 :: .box bs [sv'] 22 :: .box bf [fv'] 4 :: .box bl [lv] 23 :: .box bm [.int .i64 most] 3 :: .box bv [.func (.func 59) #[] #[.pointer (some ⟨bk, 0, none⟩), .pointer (some ⟨bfn, 0, none⟩), .pointer (some ⟨bn, 0, none⟩), .pointer (some ⟨bv, 0, none⟩)]] 82 :: .box bfn [.func (.func 47) #[] #[.pointer (some ⟨bl, 0, none⟩), .pointer (some ⟨bw, 0, none⟩), .pointer (some ⟨bm, 0, none⟩), .pointer (some ⟨bs, 0, none⟩), .pointer (some ⟨bf, 0, none⟩)]] 75 :: .box bk [.int .i64 (k : Int)] 3 :: .box bn [.int .i64 (l.length : Int)] 3 :: O)) sv' x.1 ∧ Vec (.int .i64) (nf w0 w' (.box bw [wv'] 43 :: .box bs [sv'] 22 :: .box bf [fv'] 4 :: .box bl [lv] 23 :: .box bm [.int .i64 most] 3 :: .box bv [.func (.func 59) #[] #[.pointer (some ⟨bk, 0, none⟩), .pointer (some ⟨bfn, 0, none⟩), .pointer (some ⟨bn, 0, none⟩), .pointer (some ⟨bv, 0, none⟩)]] 82 :: .box bfn [.func (.func 47) #[] #[.pointer (some ⟨bl, 0, none⟩), .pointer (some ⟨bw, 0, none⟩), .pointer (some ⟨bm, 0, none⟩), .pointer (some ⟨bs, 0, none⟩), .pointer (some ⟨bf, 0, none⟩)]] 75 :: .box bk [.int .i64 (k : Int)] 3 :: .box bn [.int .i64 (l.length : Int)] 3 :: O)) wv' x.2))

set_option maxRecDepth 10000 in
theorem vis_step {w0 : World} {O : List Res} {bw bs bf bl bm bv bfn bk bn : Nat} {lv : Value} {l : List M.Sh} {most : Int} {k : Nat} {d : Nat} {w : World} {wv sv fv cv : Value} {ch : List Int} (ih : ∀ d', d' < d → VisSt w0 O bw bs bf bl bm bv bfn bk bn lv l most k d') (hg : M.Good l) (hkk1 : 1 ≤ k) (hkk2 : k ≤ 10) (hL : Lcl w0 (.box bw [wv] 43 :: .box bs [sv] 22 :: .box bf [fv] 4 :: .box bl [lv] 23 :: .box bm [.int .i64 most] 3 :: .box bv [.func (.func 59) #[] #[.pointer (some ⟨bk, 0, none⟩), .pointer (some ⟨bfn, 0, none⟩), .pointer (some ⟨bn, 0, none⟩), .pointer (some ⟨bv, 0, none⟩)]] 82 :: .box bfn [.func (.func 47) #[] #[.pointer (some ⟨bl, 0, none⟩), .pointer (some ⟨bw, 0, none⟩), .pointer (some ⟨bm, 0, none⟩), .pointer (some ⟨bs, 0, none⟩), .pointer (some ⟨bf, 0, none⟩)]] 75 :: .box bk [.int .i64 (k : Int)] 3 :: .box bn [.int .i64 (l.length : Int)] 3 :: O) w) (hl : Vec shr (fz w (.box bw [wv] 43 :: .box bs [sv] 22 :: .box bf [fv] 4 :: .box bl [lv] 23 :: .box bm [.int .i64 most] 3 :: .box bv [.func (.func 59) #[] #[.pointer (some ⟨bk, 0, none⟩), .pointer (some ⟨bfn, 0, none⟩), .pointer (some ⟨bn, 0, none⟩), .pointer (some ⟨bv, 0, none⟩)]] 82 :: .box bfn [.func (.func 47) #[] #[.pointer (some ⟨bl, 0, none⟩), .pointer (some ⟨bw, 0, none⟩), .pointer (some ⟨bm, 0, none⟩), .pointer (some ⟨bs, 0, none⟩), .pointer (some ⟨bf, 0, none⟩)]] 75 :: .box bk [.int .i64 (k : Int)] 3 :: .box bn [.int .i64 (l.length : Int)] 3 :: O)) lv l) (hc : Vec (.int .i64) (fz w (.box bw [wv] 43 :: .box bs [sv] 22 :: .box bf [fv] 4 :: .box bl [lv] 23 :: .box bm [.int .i64 most] 3 :: .box bv [.func (.func 59) #[] #[.pointer (some ⟨bk, 0, none⟩), .pointer (some ⟨bfn, 0, none⟩), .pointer (some ⟨bn, 0, none⟩), .pointer (some ⟨bv, 0, none⟩)]] 82 :: .box bfn [.func (.func 47) #[] #[.pointer (some ⟨bl, 0, none⟩), .pointer (some ⟨bw, 0, none⟩), .pointer (some ⟨bm, 0, none⟩), .pointer (some ⟨bs, 0, none⟩), .pointer (some ⟨bf, 0, none⟩)]] 75 :: .box bk [.int .i64 (k : Int)] 3 :: .box bn [.int .i64 (l.length : Int)] 3 :: O)) cv ch) (hci : M.Ins l ch) (hck : ch.length ≤ k) (hd : d ≤ l.length) :
    Ok Try.prog 59 [cv, .int .i64 ((l.length - d : Nat) : Int), .pointer (some ⟨bk, 0, none⟩), .pointer (some ⟨bfn, 0, none⟩), .pointer (some ⟨bn, 0, none⟩), .pointer (some ⟨bv, 0, none⟩)] w (fun v w' => ∃ wv' sv' fv', v = .bool (M.vis (M.mst l most) k l.length d ch).isNone ∧ Lcl w0 (.box bw [wv'] 43 :: .box bs [sv'] 22 :: .box bf [fv'] 4 :: .box bl [lv] 23 :: .box bm [.int .i64 most] 3 :: .box bv [.func (.func 59) #[] #[.pointer (some ⟨bk, 0, none⟩), .pointer (some ⟨bfn, 0, none⟩), .pointer (some ⟨bn, 0, none⟩), .pointer (some ⟨bv, 0, none⟩)]] 82 :: .box bfn [.func (.func 47) #[] #[.pointer (some ⟨bl, 0, none⟩), .pointer (some ⟨bw, 0, none⟩), .pointer (some ⟨bm, 0, none⟩), .pointer (some ⟨bs, 0, none⟩), .pointer (some ⟨bf, 0, none⟩)]] 75 :: .box bk [.int .i64 (k : Int)] 3 :: .box bn [.int .i64 (l.length : Int)] 3 :: O) w' ∧ Le (fz w (.box bw [wv] 43 :: .box bs [sv] 22 :: .box bf [fv] 4 :: .box bl [lv] 23 :: .box bm [.int .i64 most] 3 :: .box bv [.func (.func 59) #[] #[.pointer (some ⟨bk, 0, none⟩), .pointer (some ⟨bfn, 0, none⟩), .pointer (some ⟨bn, 0, none⟩), .pointer (some ⟨bv, 0, none⟩)]] 82 :: .box bfn [.func (.func 47) #[] #[.pointer (some ⟨bl, 0, none⟩), .pointer (some ⟨bw, 0, none⟩), .pointer (some ⟨bm, 0, none⟩), .pointer (some ⟨bs, 0, none⟩), .pointer (some ⟨bf, 0, none⟩)]] 75 :: .box bk [.int .i64 (k : Int)] 3 :: .box bn [.int .i64 (l.length : Int)] 3 :: O)) (fz w' (.box bw [wv'] 43 :: .box bs [sv'] 22 :: .box bf [fv'] 4 :: .box bl [lv] 23 :: .box bm [.int .i64 most] 3 :: .box bv [.func (.func 59) #[] #[.pointer (some ⟨bk, 0, none⟩), .pointer (some ⟨bfn, 0, none⟩), .pointer (some ⟨bn, 0, none⟩), .pointer (some ⟨bv, 0, none⟩)]] 82 :: .box bfn [.func (.func 47) #[] #[.pointer (some ⟨bl, 0, none⟩), .pointer (some ⟨bw, 0, none⟩), .pointer (some ⟨bm, 0, none⟩), .pointer (some ⟨bs, 0, none⟩), .pointer (some ⟨bf, 0, none⟩)]] 75 :: .box bk [.int .i64 (k : Int)] 3 :: .box bn [.int .i64 (l.length : Int)] 3 :: O)) ∧ ((M.vis (M.mst l most) k l.length d ch) = none → sv' = sv ∧ fv' = fv) ∧ (∀ x, (M.vis (M.mst l most) k l.length d ch) = some x → fv' = .bool true ∧ Vec .byte (nf w0 w' (.box bw [wv'] 43 :: .box bs [sv'] 22 :: .box bf [fv'] 4 :: .box bl [lv] 23 :: .box bm [.int .i64 most] 3 :: .box bv [.func (.func 59) #[] #[.pointer (some ⟨bk, 0, none⟩), .pointer (some ⟨bfn, 0, none⟩), .pointer (some ⟨bn, 0, none⟩), .pointer (some ⟨bv, 0, none⟩)]] 82 :: .box bfn [.func (.func 47) #[] #[.pointer (some ⟨bl, 0, none⟩), .pointer (some ⟨bw, 0, none⟩), .pointer (some ⟨bm, 0, none⟩), .pointer (some ⟨bs, 0, none⟩), .pointer (some ⟨bf, 0, none⟩)]] 75 :: .box bk [.int .i64 (k : Int)] 3 :: .box bn [.int .i64 (l.length : Int)] 3 :: O)) sv' x.1 ∧ Vec (.int .i64) (nf w0 w' (.box bw [wv'] 43 :: .box bs [sv'] 22 :: .box bf [fv'] 4 :: .box bl [lv] 23 :: .box bm [.int .i64 most] 3 :: .box bv [.func (.func 59) #[] #[.pointer (some ⟨bk, 0, none⟩), .pointer (some ⟨bfn, 0, none⟩), .pointer (some ⟨bn, 0, none⟩), .pointer (some ⟨bv, 0, none⟩)]] 82 :: .box bfn [.func (.func 47) #[] #[.pointer (some ⟨bl, 0, none⟩), .pointer (some ⟨bw, 0, none⟩), .pointer (some ⟨bm, 0, none⟩), .pointer (some ⟨bs, 0, none⟩), .pointer (some ⟨bf, 0, none⟩)]] 75 :: .box bk [.int .i64 (k : Int)] 3 :: .box bn [.int .i64 (l.length : Int)] 3 :: O)) wv' x.2)) := by
  have hcl := hc.len_le
  have hll := hl.len_le
  have hgn := hg.n
  have hk0 := Le.refl (fz w (.box bw [wv] 43 :: .box bs [sv] 22 :: .box bf [fv] 4 :: .box bl [lv] 23 :: .box bm [.int .i64 most] 3 :: .box bv [.func (.func 59) #[] #[.pointer (some ⟨bk, 0, none⟩), .pointer (some ⟨bfn, 0, none⟩), .pointer (some ⟨bn, 0, none⟩), .pointer (some ⟨bv, 0, none⟩)]] 82 :: .box bfn [.func (.func 47) #[] #[.pointer (some ⟨bl, 0, none⟩), .pointer (some ⟨bw, 0, none⟩), .pointer (some ⟨bm, 0, none⟩), .pointer (some ⟨bs, 0, none⟩), .pointer (some ⟨bf, 0, none⟩)]] 75 :: .box bk [.int .i64 (k : Int)] 3 :: .box bn [.int .i64 (l.length : Int)] 3 :: O))
  refine Ok_enter (n := 33) [(0, cv), (1, .int .i64 ((l.length - d : Nat) : Int)), (2, .pointer (some ⟨bk, 0, none⟩)), (3, .pointer (some ⟨bfn, 0, none⟩)), (4, .pointer (some ⟨bn, 0, none⟩)), (5, .pointer (some ⟨bv, 0, none⟩))] Try.func59 rfl rfl rfl rfl rfl ?_
  refine W_seqr ?_
  refine S_pu 1 rfl ?_
  refine S_seqnil ?_
  refine W_seq ?_
  refine W_seqr ?_
  refine S_pu 1 rfl ?_
  refine S_v (r_len rfl Try.underlying43 hc) rfl ?_
  refine S_v (r_loadB1 7 rfl Try.underlying3 rfl hL rfl rfl) rfl ?_
  refine S_pu 1 rfl ?_
  refine S_seqnil ?_
  refine W_if rfl (fun hfull => ?_) (fun hfull => ?_)
  · refine W_seqr ?_
    refine S_v (r_loadB1 6 rfl Try.underlying75 rfl hL rfl rfl) rfl ?_
    refine S_pu 1 rfl ?_
    refine S_callv rfl rfl rfl (mclos_ok hL hl hc hg hci (by omega) (by omega)) ?_
    rintro _ w1 ⟨wv3, sv3, fv3, rfl, hL1, hle1, hnone, hsome⟩
    replace hl := hl.mono hle1
    replace hc := hc.mono hle1
    replace hk0 := hk0.mono hle1
    refine S_pu 1 rfl ?_
    refine S_seqnil ?_
    refine W_ret ?_
    refine At_seq_ret ?_
    refine At_body rfl rfl ?_
    have er : M.vis (M.mst l most) k l.length d ch = M.mst l most ch := M.vis_full (by omega)
    exact ⟨_, _, _, by rw [er], hL1, hk0, fun h => hnone (er.symm.trans h), fun x h => hsome x (er.symm.trans h)⟩
  · have hne : ch.length ≠ k := (by omega)
    refine W_skip ?_
    refine At_seq ?_
    refine W_seq ?_
    refine W_seqr ?_
    refine S_pu 2 rfl ?_
    refine S_seqnil ?_
    refine W_block ?_
    refine W_loop (σ := Nat × Value) (fun (⟨i, wv2⟩ : Nat × Value) => [(9, .int .i64 (i : Int)), (0, cv), (4, .pointer (some ⟨bn, 0, none⟩)), (5, .pointer (some ⟨bv, 0, none⟩))]) (fun (⟨i, wv2⟩ : Nat × Value) wr => Lcl w0 (.box bw [wv2] 43 :: .box bs [sv] 22 :: .box bf [fv] 4 :: .box bl [lv] 23 :: .box bm [.int .i64 most] 3 :: .box bv [.func (.func 59) #[] #[.pointer (some ⟨bk, 0, none⟩), .pointer (some ⟨bfn, 0, none⟩), .pointer (some ⟨bn, 0, none⟩), .pointer (some ⟨bv, 0, none⟩)]] 82 :: .box bfn [.func (.func 47) #[] #[.pointer (some ⟨bl, 0, none⟩), .pointer (some ⟨bw, 0, none⟩), .pointer (some ⟨bm, 0, none⟩), .pointer (some ⟨bs, 0, none⟩), .pointer (some ⟨bf, 0, none⟩)]] 75 :: .box bk [.int .i64 (k : Int)] 3 :: .box bn [.int .i64 (l.length : Int)] 3 :: O) wr ∧ i ≤ l.length ∧ M.vis (M.mst l most) k l.length (l.length - i) ch = M.vis (M.mst l most) k l.length d ch ∧ l.length - i ≤ d ∧ Vec shr (fz wr (.box bw [wv2] 43 :: .box bs [sv] 22 :: .box bf [fv] 4 :: .box bl [lv] 23 :: .box bm [.int .i64 most] 3 :: .box bv [.func (.func 59) #[] #[.pointer (some ⟨bk, 0, none⟩), .pointer (some ⟨bfn, 0, none⟩), .pointer (some ⟨bn, 0, none⟩), .pointer (some ⟨bv, 0, none⟩)]] 82 :: .box bfn [.func (.func 47) #[] #[.pointer (some ⟨bl, 0, none⟩), .pointer (some ⟨bw, 0, none⟩), .pointer (some ⟨bm, 0, none⟩), .pointer (some ⟨bs, 0, none⟩), .pointer (some ⟨bf, 0, none⟩)]] 75 :: .box bk [.int .i64 (k : Int)] 3 :: .box bn [.int .i64 (l.length : Int)] 3 :: O)) lv l ∧ Vec (.int .i64) (fz wr (.box bw [wv2] 43 :: .box bs [sv] 22 :: .box bf [fv] 4 :: .box bl [lv] 23 :: .box bm [.int .i64 most] 3 :: .box bv [.func (.func 59) #[] #[.pointer (some ⟨bk, 0, none⟩), .pointer (some ⟨bfn, 0, none⟩), .pointer (some ⟨bn, 0, none⟩), .pointer (some ⟨bv, 0, none⟩)]] 82 :: .box bfn [.func (.func 47) #[] #[.pointer (some ⟨bl, 0, none⟩), .pointer (some ⟨bw, 0, none⟩), .pointer (some ⟨bm, 0, none⟩), .pointer (some ⟨bs, 0, none⟩), .pointer (some ⟨bf, 0, none⟩)]] 75 :: .box bk [.int .i64 (k : Int)] 3 :: .box bn [.int .i64 (l.length : Int)] 3 :: O)) cv ch ∧ Le (fz w (.box bw [wv] 43 :: .box bs [sv] 22 :: .box bf [fv] 4 :: .box bl [lv] 23 :: .box bm [.int .i64 most] 3 :: .box bv [.func (.func 59) #[] #[.pointer (some ⟨bk, 0, none⟩), .pointer (some ⟨bfn, 0, none⟩), .pointer (some ⟨bn, 0, none⟩), .pointer (some ⟨bv, 0, none⟩)]] 82 :: .box bfn [.func (.func 47) #[] #[.pointer (some ⟨bl, 0, none⟩), .pointer (some ⟨bw, 0, none⟩), .pointer (some ⟨bm, 0, none⟩), .pointer (some ⟨bs, 0, none⟩), .pointer (some ⟨bf, 0, none⟩)]] 75 :: .box bk [.int .i64 (k : Int)] 3 :: .box bn [.int .i64 (l.length : Int)] 3 :: O)) (fz wr (.box bw [wv2] 43 :: .box bs [sv] 22 :: .box bf [fv] 4 :: .box bl [lv] 23 :: .box bm [.int .i64 most] 3 :: .box bv [.func (.func 59) #[] #[.pointer (some ⟨bk, 0, none⟩), .pointer (some ⟨bfn, 0, none⟩), .pointer (some ⟨bn, 0, none⟩), .pointer (some ⟨bv, 0, none⟩)]] 82 :: .box bfn [.func (.func 47) #[] #[.pointer (some ⟨bl, 0, none⟩), .pointer (some ⟨bw, 0, none⟩), .pointer (some ⟨bm, 0, none⟩), .pointer (some ⟨bs, 0, none⟩), .pointer (some ⟨bf, 0, none⟩)]] 75 :: .box bk [.int .i64 (k : Int)] 3 :: .box bn [.int .i64 (l.length : Int)] 3 :: O))) (fun (⟨i, wv2⟩ : Nat × Value) => l.length - i) (l.length - d, wv) (.int rfl (by omega) (.cons rfl (.cons rfl (.cons rfl (Sub.nil _))))) ⟨hL, by omega, by rw [show l.length - (l.length - d) = d by omega], by omega, hl, hc, hk0⟩ ?_
    rintro ⟨i, wv2⟩ wr2 ⟨hL2, hil, hvi, hid, hl2, hc2, hk2⟩
    refine W_seq ?_
    refine W_seqr ?_
    refine S_pu 1 rfl ?_
    refine S_v (r_loadB1 8 rfl Try.underlying3 rfl hL2 rfl rfl) rfl ?_
    refine S_pu 1 rfl ?_
    refine S_seqnil ?_
    refine W_if rfl (fun hc3 => ?_) (fun hc3 => ?_)
    · refine W_skip ?_
      refine At_seq ?_
      refine W_seq ?_
      refine W_block ?_
      refine W_seqd (.q 0 (.q 1 (.q 3 (.q 6 (.q 7 (.h2 2 (.h 4 (.h 5 (.tail 8))) 4 (.h 2 (.h 5 (.tail 8))))))))) mixed (by kernel_rfl) (fun w4 hx4 => ?_)
      have hL5 := hL2.call hx4
      have hle5 := fz_ext hL2 hx4
      replace hl2 := hl2.mono hle5
      replace hc2 := hc2.mono hle5
      replace hk2 := hk2.mono hle5
      refine D_v (r_loadB1 5 rfl Try.underlying82 rfl hL5 rfl rfl) rfl rfl ?_
      refine D_pu 3 rfl ?_
      refine D_v (r_ar64 rfl rfl rfl (by omega)) rfl rfl ?_
      refine D_b ?_
      have hB := Lcl.start w4
      refine DB_h2 ?_ ?_
      · refine DB_hcall rfl rfl rfl (fun wz1 hz1 => clonei_ok _ ((hc2.mono (fz_le _ _)).mono hz1.le) (by omega)) (Ext.refl _) ?_
        intro wz1 vz1 wz2 hz1 hz2 hRz1
        obtain ⟨xs, hB2, hlez2, hez2⟩ := hRz1.take (hB.call hz1) hz2
        obtain rfl := ints_elems hez2
        refine DB_lit (sz := 1) rfl rfl (fun _ => bsl43_1 _ _) rfl (by decide) rfl hB2 ?_
        intro vz3 wz3 hB3 hlez3 hsz3
        refine DB_append 0 rfl rfl rfl Try.underlying43 zr3 rfl (by decide) rfl hB3 rfl hsz3 (by simp [one_int]) (by omega) ?_
        intro vz4 wz4 hB4 hlez4
        have hvz4 : Vec (.int .i64) (nw w4 wz4) vz4 (ch ++ [(i : Int)]) := (hB4.own' (i := 0) (l := ch ++ [(i : Int)]) (push_row _ _ _ _) (elems_ints _ _)).vec
        replace hvz4 := hvz4.mono (nw_fz hL5)
        have hL6 := hL5.call hB4.ext
        have hle6 := fz_ext hL5 hB4.ext
        replace hl2 := hl2.mono hle6
        replace hc2 := hc2.mono hle6
        replace hk2 := hk2.mono hle6
        refine DB_tail (fun wz5 hz5 => ?_)
        have hL7 := hL6.call hz5
        have hle7 := fz_ext hL6 hz5
        replace hl2 := hl2.mono hle7
        replace hc2 := hc2.mono hle7
        replace hk2 := hk2.mono hle7
        replace hvz4 := hvz4.mono hle7
        have hih := ih (l.length - (i + 1)) (by omega) wz5 wv2 sv fv vz4 (ch ++ [(i : Int)]) hL7 hl2 hvz4 (hci.push (by omega)) (by rw [List.length_append]; simp only [List.length_singleton]; omega) (by omega)
        rw [show ((l.length - (l.length - (i + 1)) : Nat) : Int) = (i : Int) + 1 by omega] at hih
        refine S_callv rfl rfl rfl hih ?_
        rintro _ wz6 ⟨wv3, sv3, fv3, rfl, hLz6, hlez6, hnone, hsome⟩
        replace hl2 := hl2.mono hlez6
        replace hc2 := hc2.mono hlez6
        replace hk2 := hk2.mono hlez6
        replace hvz4 := hvz4.mono hlez6
        refine S_pu 1 rfl ?_
        refine S_seqnil ?_
        refine W_cond rfl (fun hr => ?_) (fun hr => ?_)
        · obtain ⟨x, hx⟩ : ∃ x, M.vis (M.mst l most) k l.length (l.length - (i + 1)) (ch ++ [(i : Int)]) = some x := (by
            cases h : M.vis (M.mst l most) k l.length (l.length - (i + 1)) (ch ++ [(i : Int)]) with
            | none => rw [h] at hr; cases hr
            | some x => exact ⟨x, rfl⟩)
          refine W_seqr ?_
          refine S_pu 1 rfl ?_
          refine S_seqnil ?_
          refine W_ret ?_
          refine At_block_ret ?_
          refine At_seq_ret ?_
          refine At_loop_ret ?_
          refine At_block_ret ?_
          refine At_seq_ret ?_
          refine At_body rfl rfl ?_
          have er : M.vis (M.mst l most) k l.length d ch = some x := hvi.symm.trans (M.vis_some (by omega) hne hx)
          exact ⟨_, _, _, by rw [er]; rfl, hLz6, hk2, fun h => (by rw [er] at h; cases h), fun y h => (by rw [er] at h; cases h; exact hsome x hx)⟩
        · have hx : M.vis (M.mst l most) k l.length (l.length - (i + 1)) (ch ++ [(i : Int)]) = none := (by
            cases h : M.vis (M.mst l most) k l.length (l.length - (i + 1)) (ch ++ [(i : Int)]) with
            | none => rfl
            | some x => rw [h] at hr; cases hr)
          obtain ⟨hs3, hf3⟩ := hnone hx
          have hs4 := hs3.symm
          subst hs4
          have hf4 := hf3.symm
          subst hf4
          refine W_skip ?_
          refine At_block ?_
          refine At_seq ?_
          refine W_region ?_
          refine S_pu 1 rfl ?_
          refine S_v (r_ar64 rfl rfl rfl (by omega)) rfl ?_
          refine S_pu 1 rfl ?_
          refine S_nil ?_
          refine At_round (i + 1, wv3) (.int rfl (by omega) (.cons rfl (.cons rfl (.cons rfl (Sub.nil _))))) ⟨hLz6, by omega, (M.vis_none (by omega) hne hx).symm.trans hvi, by omega, hl2, hc2, hk2⟩ (by show l.length - (i + 1) < l.length - i; omega)
      · refine DB_lit (sz := 1) rfl rfl (fun _ => bsl43_1 _ _) rfl (by decide) rfl hB ?_
        intro vz3 wz3 hB3 hlez3 hsz3
        refine DB_hcall rfl rfl rfl (fun wz1 hz1 => clonei_ok _ (((hc2.mono (fz_le _ _)).mono hB3.ext.le).mono hz1.le) (by omega)) hB3.ext ?_
        intro wz1 vz1 wz2 hz1 hz2 hRz1
        obtain ⟨xs, hB2, hlez2, hez2⟩ := hRz1.take (hB3.call hz1) hz2
        obtain rfl := ints_elems hez2
        refine DB_append 0 rfl rfl rfl Try.underlying43 zr3 rfl (by decide) rfl hB2 rfl ((hsz3.mono (fz_ext hB3 hz1)).mono hlez2) (by simp [one_int]) (by omega) ?_
        intro vz4 wz4 hB4 hlez4
        have hvz4 : Vec (.int .i64) (nw w4 wz4) vz4 (ch ++ [(i : Int)]) := (hB4.own' (i := 0) (l := ch ++ [(i : Int)]) (push_row _ _ _ _) (elems_ints _ _)).vec
        replace hvz4 := hvz4.mono (nw_fz hL5)
        have hL8 := hL5.call hB4.ext
        have hle8 := fz_ext hL5 hB4.ext
        replace hl2 := hl2.mono hle8
        replace hc2 := hc2.mono hle8
        replace hk2 := hk2.mono hle8
        refine DB_tail (fun wz5 hz5 => ?_)
        have hL9 := hL8.call hz5
        have hle9 := fz_ext hL8 hz5
        replace hl2 := hl2.mono hle9
        replace hc2 := hc2.mono hle9
        replace hk2 := hk2.mono hle9
        replace hvz4 := hvz4.mono hle9
        have hih := ih (l.length - (i + 1)) (by omega) wz5 wv2 sv fv vz4 (ch ++ [(i : Int)]) hL9 hl2 hvz4 (hci.push (by omega)) (by rw [List.length_append]; simp only [List.length_singleton]; omega) (by omega)
        rw [show ((l.length - (l.length - (i + 1)) : Nat) : Int) = (i : Int) + 1 by omega] at hih
        refine S_callv rfl rfl rfl hih ?_
        rintro _ wz6 ⟨wv3, sv3, fv3, rfl, hLz6, hlez6, hnone, hsome⟩
        replace hl2 := hl2.mono hlez6
        replace hc2 := hc2.mono hlez6
        replace hk2 := hk2.mono hlez6
        replace hvz4 := hvz4.mono hlez6
        refine S_pu 1 rfl ?_
        refine S_seqnil ?_
        refine W_cond rfl (fun hr => ?_) (fun hr => ?_)
        · obtain ⟨x, hx⟩ : ∃ x, M.vis (M.mst l most) k l.length (l.length - (i + 1)) (ch ++ [(i : Int)]) = some x := (by
            cases h : M.vis (M.mst l most) k l.length (l.length - (i + 1)) (ch ++ [(i : Int)]) with
            | none => rw [h] at hr; cases hr
            | some x => exact ⟨x, rfl⟩)
          refine W_seqr ?_
          refine S_pu 1 rfl ?_
          refine S_seqnil ?_
          refine W_ret ?_
          refine At_block_ret ?_
          refine At_seq_ret ?_
          refine At_loop_ret ?_
          refine At_block_ret ?_
          refine At_seq_ret ?_
          refine At_body rfl rfl ?_
          have er : M.vis (M.mst l most) k l.length d ch = some x := hvi.symm.trans (M.vis_some (by omega) hne hx)
          exact ⟨_, _, _, by rw [er]; rfl, hLz6, hk2, fun h => (by rw [er] at h; cases h), fun y h => (by rw [er] at h; cases h; exact hsome x hx)⟩
        · have hx : M.vis (M.mst l most) k l.length (l.length - (i + 1)) (ch ++ [(i : Int)]) = none := (by
            cases h : M.vis (M.mst l most) k l.length (l.length - (i + 1)) (ch ++ [(i : Int)]) with
            | none => rfl
            | some x => rw [h] at hr; cases hr)
          obtain ⟨hs3, hf3⟩ := hnone hx
          have hs4 := hs3.symm
          subst hs4
          have hf4 := hf3.symm
          subst hf4
          refine W_skip ?_
          refine At_block ?_
          refine At_seq ?_
          refine W_region ?_
          refine S_pu 1 rfl ?_
          refine S_v (r_ar64 rfl rfl rfl (by omega)) rfl ?_
          refine S_pu 1 rfl ?_
          refine S_nil ?_
          refine At_round (i + 1, wv3) (.int rfl (by omega) (.cons rfl (.cons rfl (.cons rfl (Sub.nil _))))) ⟨hLz6, by omega, (M.vis_none (by omega) hne hx).symm.trans hvi, by omega, hl2, hc2, hk2⟩ (by show l.length - (i + 1) < l.length - i; omega)
    · refine W_exit ?_
      refine At_seq_exit ?_
      refine At_loop_exit ?_
      refine At_exit ?_
      refine At_seq ?_
      refine W_seqr ?_
      refine S_pu 1 rfl ?_
      refine S_seqnil ?_
      refine W_ret ?_
      refine At_body rfl rfl ?_
      obtain rfl : i = l.length := (by omega)
      have er : M.vis (M.mst l most) k l.length d ch = none := hvi.symm.trans (by rw [Nat.sub_self]; exact M.vis_zero hne)
      exact ⟨_, _, _, by rw [er]; rfl, hL2, hk2, fun _ => ⟨rfl, rfl⟩, fun y h => (by rw [er] at h; cases h)⟩

theorem vis_ok {w0 : World} {O : List Res} {bw bs bf bl bm bv bfn bk bn : Nat} {lv : Value} {l : List M.Sh} {most : Int} {k : Nat} (hg : M.Good l) (hkk1 : 1 ≤ k) (hkk2 : k ≤ 10) (d : Nat) : VisSt w0 O bw bs bf bl bm bv bfn bk bn lv l most k d := by
  induction d using Nat.strongRecOn with
  | _ d ih => exact fun w wv sv fv cv ch hL hl hc hci hck hd => vis_step (d := d) ih hg hkk1 hkk2 hL hl hc hci hck hd

set_option maxRecDepth 10000 in
theorem choices_ok {w0 w : World} {O : List Res} {bw bs bf bl bm : Nat} {wv sv fv lv : Value} {l : List M.Sh} {most : Int} {k : Nat} (hg : M.Good l) (hkk1 : 1 ≤ k) (hkk2 : k ≤ 10) (hL : Lcl w0 (.box bw [wv] 43 :: .box bs [sv] 22 :: .box bf [fv] 4 :: .box bl [lv] 23 :: .box bm [.int .i64 most] 3 :: O) w) (hl : Vec shr (fz w (.box bw [wv] 43 :: .box bs [sv] 22 :: .box bf [fv] 4 :: .box bl [lv] 23 :: .box bm [.int .i64 most] 3 :: O)) lv l) :
    Ok Try.prog 46 [.int .i64 (l.length : Int), .int .i64 (k : Int), .func (.func 47) #[] #[.pointer (some ⟨bl, 0, none⟩), .pointer (some ⟨bw, 0, none⟩), .pointer (some ⟨bm, 0, none⟩), .pointer (some ⟨bs, 0, none⟩), .pointer (some ⟨bf, 0, none⟩)]] w (fun v w' => ∃ wv' sv' fv', v = .tuple #[] ∧ Lcl w0 (.box bw [wv'] 43 :: .box bs [sv'] 22 :: .box bf [fv'] 4 :: .box bl [lv] 23 :: .box bm [.int .i64 most] 3 :: O) w' ∧ Le (fz w (.box bw [wv] 43 :: .box bs [sv] 22 :: .box bf [fv] 4 :: .box bl [lv] 23 :: .box bm [.int .i64 most] 3 :: O)) (fz w' (.box bw [wv'] 43 :: .box bs [sv'] 22 :: .box bf [fv'] 4 :: .box bl [lv] 23 :: .box bm [.int .i64 most] 3 :: O)) ∧ ((M.vis (M.mst l most) k l.length l.length []) = none → sv' = sv ∧ fv' = fv) ∧ (∀ x, (M.vis (M.mst l most) k l.length l.length []) = some x → fv' = .bool true ∧ Vec .byte (nf w0 w' (.box bw [wv'] 43 :: .box bs [sv'] 22 :: .box bf [fv'] 4 :: .box bl [lv] 23 :: .box bm [.int .i64 most] 3 :: O)) sv' x.1 ∧ Vec (.int .i64) (nf w0 w' (.box bw [wv'] 43 :: .box bs [sv'] 22 :: .box bf [fv'] 4 :: .box bl [lv] 23 :: .box bm [.int .i64 most] 3 :: O)) wv' x.2)) := by
  have hll := hl.len_le
  have hk0 := Le.refl (fz w (.box bw [wv] 43 :: .box bs [sv] 22 :: .box bf [fv] 4 :: .box bl [lv] 23 :: .box bm [.int .i64 most] 3 :: O))
  refine Ok_enter (n := 10) [(0, .int .i64 (l.length : Int)), (1, .int .i64 (k : Int)), (2, .func (.func 47) #[] #[.pointer (some ⟨bl, 0, none⟩), .pointer (some ⟨bw, 0, none⟩), .pointer (some ⟨bm, 0, none⟩), .pointer (some ⟨bs, 0, none⟩), .pointer (some ⟨bf, 0, none⟩)])] Try.func46 rfl rfl rfl rfl rfl ?_
  refine W_seqr ?_
  refine S_box (t := 3) rfl rfl rfl hL ?_
  intro w1 b1 hL1 hle1 _
  replace hl := hl.mono hle1
  replace hk0 := hk0.mono hle1
  refine S_box (t := 3) rfl rfl rfl hL1 ?_
  intro w2 b2 hL2 hle2 _
  replace hl := hl.mono hle2
  replace hk0 := hk0.mono hle2
  refine S_box (t := 75) rfl rfl rfl hL2 ?_
  intro w3 b3 hL3 hle3 _
  replace hl := hl.mono hle3
  replace hk0 := hk0.mono hle3
  refine S_seqnil ?_
  refine W_seqr ?_
  refine S_alloc zr82 rfl rfl hL3 ?_
  intro w4 b4 hL4 hle4 _
  replace hl := hl.mono hle4
  replace hk0 := hk0.mono hle4
  refine S_seqnil ?_
  refine W_seqr ?_
  refine S_pu 1 rfl ?_
  refine S_storeB1 0 rfl rfl rfl zr82 hL4 rfl rfl ?_
  intro w5 hL5 hle5
  replace hl := hl.mono hle5
  replace hk0 := hk0.mono hle5
  refine S_seqnil ?_
  refine W_region ?_
  refine S_v (r_loadB1 0 rfl Try.underlying82 rfl hL5 rfl rfl) rfl ?_
  have hL7 := hL5.pick (i := 8) rfl
  replace hl := hl.mono (fz_pick (i := 8) rfl)
  replace hk0 := hk0.mono (fz_pick (i := 8) rfl)
  have hL8 := hL7.pick (i := 8) rfl
  replace hl := hl.mono (fz_pick (i := 8) rfl)
  replace hk0 := hk0.mono (fz_pick (i := 8) rfl)
  have hL9 := hL8.pick (i := 8) rfl
  replace hl := hl.mono (fz_pick (i := 8) rfl)
  replace hk0 := hk0.mono (fz_pick (i := 8) rfl)
  have hL10 := hL9.pick (i := 8) rfl
  replace hl := hl.mono (fz_pick (i := 8) rfl)
  replace hk0 := hk0.mono (fz_pick (i := 8) rfl)
  have hL11 := hL10.pick (i := 8) rfl
  replace hl := hl.mono (fz_pick (i := 8) rfl)
  replace hk0 := hk0.mono (fz_pick (i := 8) rfl)
  have hih := vis_ok (k := k) hg hkk1 hkk2 l.length _ _ _ _ _ [] hL11 hl (Vec.nil _ _) (fun i hi => absurd hi (Nat.not_lt_zero _)) (Nat.zero_le _) (Nat.le_refl _)
  rw [Nat.sub_self] at hih
  refine S_callv rfl rfl rfl hih ?_
  rintro _ w6 ⟨wv3, sv3, fv3, rfl, hL6, hle6, hnone, hsome⟩
  replace hl := hl.mono hle6
  replace hk0 := hk0.mono hle6
  have hq := lcl_refl hL6
  refine S_nil ?_
  refine At_got0e rfl ?_
  have hL12 := hL6.dropAt (i := 5) rfl
  replace hl := hl.mono (fz_dropAt (i := 5) rfl)
  replace hk0 := hk0.mono (fz_dropAt (i := 5) rfl)
  replace hq := hq.mono (fz_dropAt (i := 5) rfl)
  have hL13 := hL12.dropAt (i := 5) rfl
  replace hl := hl.mono (fz_dropAt (i := 5) rfl)
  replace hk0 := hk0.mono (fz_dropAt (i := 5) rfl)
  replace hq := hq.mono (fz_dropAt (i := 5) rfl)
  have hL14 := hL13.dropAt (i := 5) rfl
  replace hl := hl.mono (fz_dropAt (i := 5) rfl)
  replace hk0 := hk0.mono (fz_dropAt (i := 5) rfl)
  replace hq := hq.mono (fz_dropAt (i := 5) rfl)
  have hL15 := hL14.dropAt (i := 5) rfl
  replace hl := hl.mono (fz_dropAt (i := 5) rfl)
  replace hk0 := hk0.mono (fz_dropAt (i := 5) rfl)
  replace hq := hq.mono (fz_dropAt (i := 5) rfl)
  exact ⟨_, _, _, rfl, hL15, hk0, hnone, fun x h => ⟨(hsome x h).1, (hsome x h).2.1.mono (nf_mono hq), (hsome x h).2.2.mono (nf_mono hq)⟩⟩

set_option maxRecDepth 10000 in
theorem mend_ok (w : World) {lv : Value} {l : List M.Sh} {m : Int} (hl : Vec shr (hp w) lv l) :
    Ok Try.prog 30 [lv, .int .i64 m] w (fun v w' => Ext w w' ∧ ∃ sv wv, v = .tuple #[sv, wv, .agg #[.int .i64 (M.mnF l m).1, .int .i64 (M.mnF l m).2]] ∧ Vec .byte (nw w w') sv (M.mnS l m) ∧ Vec (.int .i64) (nw w w') wv (M.mnB l m)) := by
  have hll := hl.len_le
  obtain ⟨sa, scap, rfl⟩ := hl.header
  refine Ok_enter (n := 35) [(0, .slice sa l.length scap), (1, .int .i64 m)] Try.func30 rfl rfl rfl rfl rfl ?_
  have hL := Lcl.start w
  refine W_seqr ?_
  refine S_box (t := 23) rfl rfl rfl hL ?_
  intro w1 b1 hL1 hle1 _
  refine S_pu 2 rfl ?_
  refine S_alloc zr25 rfl rfl hL1 ?_
  intro w2 b2 hL2 hle2 _
  refine S_seqnil ?_
  refine W_seq ?_
  refine W_seqr ?_
  refine S_v (r_loadB1 1 rfl Try.underlying23 rfl hL2 rfl rfl) rfl ?_
  refine S_pu 1 rfl ?_
  refine S_callL rfl rfl hL2 (check_ok _ (hl.mono hL2.arg)) ?_
  rintro _ w3 rfl hx3 hL3 hle3
  refine S_alloc zr25 rfl rfl hL3 ?_
  intro w4 b4 hL4 hle4 _
  refine S_storeBN 0 rfl rfl rfl zr25 hL4 rfl rfl (onc rfl (onc rfl on0)) ?_
  intro w5 hL5 hle5
  refine S_seqnil ?_
  refine W_seqr ?_
  refine S_v (r_loadBN 0 rfl Try.underlying25 rfl zr25 hL5 rfl) rfl ?_
  refine S_v (r_build rfl (fun _ => bld25_z _)) rfl ?_
  refine S_v (r_neA rfl rfl eqg25 (eq25 _ _ _ _)) rfl ?_
  refine S_seqnil ?_
  refine W_ifn rfl (fun hc => ?_) (fun hc => ?_)
  · refine W_seqd (.q 0 (.q 1 (.q 2 (.tail 3)))) mixed (by kernel_rfl) (fun w6 hx6 => ?_)
    have hL7 := hL5.call hx6
    refine D_v (r_loadBN 0 rfl Try.underlying25 rfl zr25 hL7 rfl) rfl rfl ?_
    refine D_pu 2 rfl ?_
    refine D_tail (fun w8 hx8 => ?_)
    have hL9 := hL7.call hx8
    refine S_storeBN 1 rfl rfl rfl zr25 hL9 rfl rfl (onc rfl (onc rfl on0)) ?_
    intro w10 hL10 hle10
    refine S_seqnil ?_
    refine W_ret ?_
    refine At_seq_ret ?_
    refine At_got3 rfl (.tmp rfl) (.tmp rfl) (.cell rfl Try.underlying25 rfl zr25 (box_ptr (i := 1) hL10 rfl)) ?_
    have e : M.mnF l m = M.chkAll l m := by rw [M.mnF, if_pos (ch_ne hc)]
    exact ⟨hL10.ext, _, _, by rw [e]; rfl, by rw [M.mnS, if_neg (by rw [e]; exact ch_ne hc)]; exact Vec.nil _ _, by rw [M.mnB, if_neg (by rw [e]; exact ch_ne hc)]; exact Vec.nil _ _⟩
  · obtain ⟨gg, gk, gn, gm1, gm2, gml⟩ := M.chkAll_ok (ch_eq hc)
    have hmm : m = ((m.toNat : Nat) : Int) := (by omega)
    refine W.sub (L' := [(1, .int .i64 ((m.toNat : Nat) : Int)), (2, .pointer (some ⟨b1, 0, none⟩)), (4, .slice none 0 0), (5, .slice none 0 0), (6, .pointer (some ⟨b2, 0, none⟩))]) ?_ (.int rfl (by omega) (.cons rfl (.cons rfl (.cons rfl (.cons rfl (.nil _))))))
    refine W_skip ?_
    refine At_seq ?_
    refine W_seqr ?_
    refine S_v (r_loadB1 2 rfl Try.underlying23 rfl hL5 rfl rfl) rfl ?_
    refine S_v (r_len rfl Try.underlying23 hl) rfl ?_
    refine S_pu 1 rfl ?_
    refine S_v (r_ar64 rfl rfl rfl (by omega)) rfl ?_
    refine S_v (r_quo rfl rfl (by omega)) rfl ?_
    refine S_alloc zr3 rfl rfl hL5 ?_
    intro w11 b11 hL11 hle11 _
    refine S_storeB1 0 rfl rfl rfl zr3 hL11 rfl rfl ?_
    intro w12 hL12 hle12
    refine S_seqnil ?_
    refine W_seqr ?_
    refine S_alloc zr22 rfl rfl hL12 ?_
    intro w13 b13 hL13 hle13 _
    refine S_seqnil ?_
    refine W_seqr ?_
    refine S_alloc zr43 rfl rfl hL13 ?_
    intro w14 b14 hL14 hle14 _
    refine S_seqnil ?_
    refine W_seqr ?_
    refine S_alloc zr4 rfl rfl hL14 ?_
    intro w15 b15 hL15 hle15 _
    refine S_storeB1 0 rfl rfl rfl zr4 hL15 rfl rfl ?_
    intro w16 hL16 hle16
    refine S_seqnil ?_
    refine W_seqr ?_
    refine S_v (r_loadB1 6 rfl Try.underlying23 rfl hL16 rfl rfl) rfl ?_
    refine S_v (r_len rfl Try.underlying23 hl) rfl ?_
    refine S_pu 2 rfl ?_
    have hL17 := hL16.pick (i := 3) rfl
    have hL18 := hL17.pick (i := 6) rfl
    have hL19 := hL18.pick (i := 2) rfl
    have hL20 := hL19.pick (i := 4) rfl
    have hL21 := hL20.pick (i := 4) rfl
    refine S_call rfl rfl (choices_ok (most := (((l.length : Int) - ((m.toNat : Nat) : Int)) / 2)) (k := m.toNat) gg (by omega) (by omega) hL21 (hl.mono hL21.argFz)) ?_
    rintro _ w22 ⟨wv3, sv3, fv3, rfl, hL22, hle22, hnone, hsome⟩
    have hmr : M.mnR l m = M.vis (M.mst l (((l.length : Int) - ((m.toNat : Nat) : Int)) / 2)) m.toNat l.length l.length [] := (by rw [M.mnR, ← hmm])
    rcases Option.eq_none_or_eq_some (M.vis (M.mst l (((l.length : Int) - ((m.toNat : Nat) : Int)) / 2)) m.toNat l.length l.length []) with hr | ⟨x, hr⟩
    · obtain ⟨rfl, rfl⟩ := hnone hr
      have e : M.mnF l m = (19, -1) := by rw [M.mnF, if_neg (fun h => h (ch_eq hc)), hmr, hr]; rfl
      refine S_seqnil ?_
      refine W_seq ?_
      refine W_seqr ?_
      refine S_v (r_loadB1 2 rfl Try.underlying4 rfl hL22 rfl rfl) rfl ?_
      refine S_pu 1 rfl ?_
      refine S_seqnil ?_
      refine W_true rfl ?_
      refine W_seqr ?_
      refine S_callL rfl rfl hL22 (sfault_ok _ ) ?_
      rintro _ w23 rfl hx23 hL23 hle23
      refine S_pu 2 rfl ?_
      refine S_storeBN 6 rfl rfl rfl zr25 hL23 rfl rfl (onc rfl (onc rfl on0)) ?_
      intro w24 hL24 hle24
      refine S_seqnil ?_
      refine W_ret ?_
      refine At_seq_ret ?_
      refine At_got3 rfl (.tmp rfl) (.tmp rfl) (.cell rfl Try.underlying25 rfl zr25 (box_ptr (i := 6) hL24 rfl)) ?_
      exact ⟨hL24.ext, _, _, by rw [e]; rfl, by rw [M.mnS, if_neg (by rw [e]; decide)]; exact Vec.nil _ _, by rw [M.mnB, if_neg (by rw [e]; decide)]; exact Vec.nil _ _⟩
    · obtain ⟨rfl, hS, hB⟩ := hsome x hr
      have e : M.mnF l m = (0, 0) := by rw [M.mnF, if_neg (fun h => h (ch_eq hc)), hmr, hr]; rfl
      refine S_seqnil ?_
      refine W_seq ?_
      refine W_seqr ?_
      refine S_v (r_loadB1 2 rfl Try.underlying4 rfl hL22 rfl rfl) rfl ?_
      refine S_pu 1 rfl ?_
      refine S_seqnil ?_
      refine W_false rfl ?_
      refine W_skip ?_
      refine At_seq ?_
      refine W_seqd (.q 0 (.q 1 (.q 2 (.q 3 (.q 4 (.tail 5)))))) mixed (by kernel_rfl) (fun w25 hx25 => ?_)
      have hL26 := hL22.call hx25
      have hle26 := fz_ext hL22 hx25
      replace hS := hS.mono (nf_mono hle26)
      replace hB := hB.mono (nf_mono hle26)
      refine D_v (r_loadB1 1 rfl Try.underlying22 rfl hL26 rfl rfl) rfl rfl ?_
      refine D_v (r_loadB1 0 rfl Try.underlying43 rfl hL26 rfl rfl) rfl rfl ?_
      refine D_v (r_build rfl (fun _ => bld25_z _)) rfl rfl ?_
      refine D_pu 2 rfl ?_
      refine D_tail (fun w27 hx27 => ?_)
      have hL28 := hL26.call hx27
      have hle28 := fz_ext hL26 hx27
      replace hS := hS.mono (nf_mono hle28)
      replace hB := hB.mono (nf_mono hle28)
      refine S_storeBN 6 rfl rfl rfl zr25 hL28 rfl rfl (onc rfl (onc rfl on0)) ?_
      intro w29 hL29 hle29
      replace hS := hS.mono (nf_mono hle29)
      replace hB := hB.mono (nf_mono hle29)
      refine S_seqnil ?_
      refine W_ret ?_
      refine At_got3 rfl (.tmp rfl) (.tmp rfl) (.cell rfl Try.underlying25 rfl zr25 (box_ptr (i := 6) hL29 rfl)) ?_
      have hx : (M.mnR l m).getD ([], []) = x := by rw [hmr, hr]; rfl
      exact ⟨hL29.ext, _, _, by rw [e]; rfl, by rw [M.mnS, if_pos e, hx]; exact hS.mono nf_nw, by rw [M.mnB, if_pos e, hx]; exact hB.mono nf_nw⟩
end Go.Proofs.Ytidedcbaahiplaa
