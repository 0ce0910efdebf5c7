/- Contracts: lists of shares are checked, joined, split. -/
import Derived.Test.YtidedcbaahiplaaC2
import Derived.KernelRfl
namespace Go.Proofs.Ytidedcbaahiplaa
open Go Go.E Go.RowKit
set_option maxRecDepth 10000 in
theorem clos_ok (w : World) {k k2 : Int} {dv cv : Value} {p : Addr} (hp0 : PtrTo (hp w) p [.int .i64 k, cv]) :
    Ok Try.prog 63 [.agg #[.int .i64 k2, dv], .pointer (some p)] w (fun v w' => Ext w w' ∧ v = .bool (decide (k2 = k))) := by
  refine Ok_enter (n := 9) [(0, .agg #[.int .i64 k2, dv]), (1, .pointer (some p))] Try.func63 rfl rfl rfl rfl rfl ?_
  have hL := Lcl.start w
  refine W_seqr ?_
  refine S_box (t := 32) rfl rfl rfl hL ?_
  intro w1 b1 hL1 hle1 _
  refine S_pu 1 rfl ?_
  refine S_seqnil ?_
  refine W_seqr ?_
  refine S_v (r_field rfl Try.underlying32 rfl zr3 (by decide)) rfl ?_
  refine S_v (r_loadB1 0 rfl Try.underlying3 rfl hL1 rfl rfl) rfl ?_
  refine S_v (r_field rfl Try.underlying32 rfl zr3 (by decide)) rfl ?_
  have hp2 := hp0.add 0
  refine S_v (r_load1 rfl Try.underlying3 rfl hp2 hL1.arg) rfl ?_
  refine S_pu 2 rfl ?_
  refine S_seqnil ?_
  refine W_ret ?_
  refine At_body rfl rfl ?_
  exact ⟨hL1.ext, rfl⟩

theorem fidx_next {l : List M.Sh} {k : Int} {i : Nat} {r : Int} (h : M.fidx l k (l.length - i) i = r) (hi : i < l.length) (hf : ¬ (l.getD i default).1 = k) : M.fidx l k (l.length - (i + 1)) (i + 1) = r := by
  rw [show l.length - i = (l.length - (i + 1)) + 1 by omega, M.fidx, if_neg hf] at h; exact h
theorem fidx_hit {l : List M.Sh} {k : Int} {i : Nat} {r : Int} (h : M.fidx l k (l.length - i) i = r) (hi : i < l.length) (hf : (l.getD i default).1 = k) : r = (i : Int) := by
  rw [show l.length - i = (l.length - (i + 1)) + 1 by omega, M.fidx, if_pos hf] at h; exact h.symm
theorem fidx_end {l : List M.Sh} {k : Int} {i : Nat} {r : Int} (h : M.fidx l k (l.length - i) i = r) (hi : l.length ≤ i) : r = -1 := by
  rw [show l.length - i = 0 by omega, M.fidx] at h; exact h.symm

set_option maxRecDepth 10000 in
theorem indexf_ok (w : World) {lv cv : Value} {l : List M.Sh} {k : Int} {p : Addr} (hl : Vec shr (hp w) lv l) (hp0 : PtrTo (hp w) p [.int .i64 k, cv]) :
    Ok Try.prog 66 [lv, .func (.func 63) #[] #[.pointer (some p)]] w (fun v w' => Ext w w' ∧ v = .int .i64 (M.fidx l k l.length 0)) := by
  have hll := hl.len_le
  refine Ok_enter (n := 19) [(0, lv), (1, .func (.func 63) #[] #[.pointer (some p)])] Try.func66 rfl rfl rfl rfl rfl ?_
  have hL := Lcl.start w
  refine W_seqr ?_
  refine S_pu 1 rfl ?_
  refine S_seqnil ?_
  refine W_seq ?_
  refine W_seqr ?_
  refine S_pu 1 rfl ?_
  refine S_v (r_len rfl Try.underlying23 hl) rfl ?_
  refine S_pu 1 rfl ?_
  refine S_seqnil ?_
  refine W_block ?_
  refine W_loop (σ := Nat) (fun i => [(8, .int .i64 (i : Int)), (0, lv), (1, .func (.func 63) #[] #[.pointer (some p)]), (7, .int .i64 ((l).length : Int))]) (fun i wr => Lcl w [] wr ∧ i ≤ l.length ∧ M.fidx l k (l.length - i) i = M.fidx l k l.length 0) (fun i => l.length - i) 0 (.cons rfl (.cons rfl (.cons rfl (.cons rfl (Sub.nil _))))) ⟨hL, Nat.zero_le _, rfl⟩ ?_
  rintro i wr1 ⟨hL1, hil, hf⟩
  refine W_seqr ?_
  refine S_pu 1 rfl ?_
  refine S_seqnil ?_
  refine W_seq ?_
  refine W_if rfl (fun hc2 => ?_) (fun hc2 => ?_)
  · refine W_skip ?_
    refine At_seq ?_
    refine W_seq ?_
    refine W_block ?_
    refine W_seqr ?_
    refine S_pu 2 rfl ?_
    refine S_seqnil ?_
    refine W_seqr ?_
    refine S_pu 3 rfl ?_
    refine S_index rfl rfl Try.underlying23 zr32 hl i rfl (by omega) rfl ?_
    rintro p3 _ ⟨_, _, rfl, rfl, e3v, rfl, e3h⟩ hp3
    refine S_v (r_loadN rfl Try.underlying32 rfl zr32 hp3 hL1.arg) rfl ?_
    refine S_callv rfl rfl rfl (clos_ok _ (hp0.mono hL1.arg)) ?_
    rintro _ w4 ⟨hx4, rfl⟩
    have hL5 := hL1.call hx4
    refine S_seqnil ?_
    refine W_if rfl (fun hc => ?_) (fun hc => ?_)
    · refine W_seqr ?_
      refine S_pu 2 rfl ?_
      refine S_seqnil ?_
      refine W_ret ?_
      refine At_block_ret ?_
      refine At_seq_ret ?_
      refine At_loop_ret ?_
      refine At_block_ret ?_
      refine At_seq_ret ?_
      refine At_body rfl rfl ?_
      exact ⟨hL5.ext, by rw [fidx_hit hf (by omega) hc]⟩
    · refine W_skip ?_
      refine At_block ?_
      refine At_seq ?_
      refine W_region ?_
      refine S_v (r_ar64 rfl rfl rfl (by omega)) rfl ?_
      refine S_pu 1 rfl ?_
      refine S_nil ?_
      refine At_round (i + 1) (.int rfl (by omega) (.cons rfl (.cons rfl (.cons rfl (Sub.nil _))))) ⟨hL5, by omega, fidx_next hf (by omega) hc⟩ (by omega)
  · refine W_exit ?_
    refine At_seq_exit ?_
    refine At_loop_exit ?_
    refine At_exit ?_
    refine At_seq ?_
    refine W_seqr ?_
    refine S_pu 1 rfl ?_
    refine S_seqnil ?_
    refine W_ret ?_
    refine At_body rfl rfl ?_
    exact ⟨hL1.ext, by rw [fidx_end hf (by omega)]⟩

set_option maxRecDepth 10000 in
theorem containsf_ok (w : World) {lv cv : Value} {l : List M.Sh} {k : Int} {p : Addr} (hl : Vec shr (hp w) lv l) (hp0 : PtrTo (hp w) p [.int .i64 k, cv]) :
    Ok Try.prog 62 [lv, .func (.func 63) #[] #[.pointer (some p)]] w (fun v w' => Ext w w' ∧ v = .bool (decide (0 ≤ M.fidx l k l.length 0))) := by
  refine Ok_enter (n := 9) [(0, lv), (1, .func (.func 63) #[] #[.pointer (some p)])] Try.func62 rfl rfl rfl rfl rfl ?_
  have hL := Lcl.start w
  refine W_seqr ?_
  refine S_pu 1 rfl ?_
  refine S_seqnil ?_
  refine W_seqr ?_
  refine S_pu 2 rfl ?_
  refine S_callL rfl rfl hL (indexf_ok _ (hl.mono hL.arg) (hp0.mono hL.arg)) ?_
  rintro _ w1 rfl hx1 hL1 hle1
  refine S_pu 2 rfl ?_
  refine S_seqnil ?_
  refine W_ret ?_
  refine At_body rfl rfl ?_
  exact ⟨hL1.ext, rfl⟩

theorem chF_next {l : List M.Sh} {i : Nat} {r : Int × Int} (h : M.chF l (l.length - i) i = r) (hi : i < l.length) (hf : M.chk1 l i = 0) : M.chF l (l.length - (i + 1)) (i + 1) = r := by
  rw [show l.length - i = (l.length - (i + 1)) + 1 by omega, M.chF, if_pos hf] at h; exact h
theorem chF_hit {l : List M.Sh} {i : Nat} {r : Int × Int} {c : Int} (h : M.chF l (l.length - i) i = r) (hi : i < l.length) (hf : M.chk1 l i = c) (hc : c ≠ 0) : r = (c, (i : Int)) := by
  rw [show l.length - i = (l.length - (i + 1)) + 1 by omega, M.chF, if_neg (by rw [hf]; exact hc), hf] at h; exact h.symm
theorem chF_end {l : List M.Sh} {i : Nat} {r : Int × Int} (h : M.chF l (l.length - i) i = r) (hi : l.length ≤ i) : r = (0, 0) := by
  rw [show l.length - i = 0 by omega, M.chF] at h; exact h.symm

set_option maxRecDepth 10000 in
theorem checkl_ok (w : World) {lv : Value} {l : List M.Sh} (hl : Vec shr (hp w) lv l) :
    Ok Try.prog 51 [lv] w (fun v w' => Ext w w' ∧ v = .agg #[.int .i64 (M.chkList l).1, .int .i64 (M.chkList l).2]) := by
  have hll := hl.len_le
  refine Ok_enter (n := 56) [(0, lv)] Try.func51 rfl rfl rfl rfl rfl ?_
  have hL := Lcl.start w
  refine W_seqr ?_
  refine S_alloc zr25 rfl rfl hL ?_
  intro w1 b1 hL1 hle1 _
  refine S_seqnil ?_
  refine W_seq ?_
  refine W_seqr ?_
  refine S_pu 1 rfl ?_
  refine S_v (r_len rfl Try.underlying23 hl) rfl ?_
  refine S_pu 1 rfl ?_
  refine S_seqnil ?_
  refine W_if rfl (fun hc2 => ?_) (fun hc2 => ?_)
  · refine W_seqr ?_
    refine S_callL rfl rfl hL1 (sfault_ok _ ) ?_
    rintro _ w3 rfl hx3 hL3 hle3
    refine S_storeBN 0 rfl rfl rfl zr25 hL3 rfl rfl (onc rfl (onc rfl on0)) ?_
    intro w4 hL4 hle4
    refine S_seqnil ?_
    refine W_ret ?_
    refine At_seq_ret ?_
    refine At_got1 rfl (.cell rfl Try.underlying25 rfl zr25 (box_ptr (i := 0) hL4 rfl)) ?_
    exact ⟨hL4.ext, by rw [M.chkList, if_pos (by omega)]; rfl⟩
  · refine W_skip ?_
    refine At_seq ?_
    refine W_seq ?_
    refine W_seqr ?_
    refine S_pu 1 rfl ?_
    refine S_v (r_len rfl Try.underlying23 hl) rfl ?_
    refine S_pu 1 rfl ?_
    refine S_seqnil ?_
    refine W_block ?_
    refine W_loop (σ := Nat) (fun i => [(11, .int .i64 (i : Int)), (0, lv), (2, .pointer (some ⟨b1, 0, none⟩)), (9, lv), (10, .int .i64 ((l).length : Int))]) (fun i wr => Lcl w [.box b1 [.int .i64 0, .int .i64 0] 25] wr ∧ i ≤ l.length ∧ M.chF l (l.length - i) i = M.chkList l) (fun i => l.length - i) 0 (.cons rfl (.cons rfl (.cons rfl (.cons rfl (.cons rfl (Sub.nil _)))))) ⟨hL1, Nat.zero_le _, by rw [M.chkList, if_neg (by omega)]; rfl⟩ ?_
    rintro i wr5 ⟨hL5, hil, hch⟩
    refine W_seqr ?_
    refine S_pu 1 rfl ?_
    refine S_seqnil ?_
    refine W_seq ?_
    refine W_if rfl (fun hc6 => ?_) (fun hc6 => ?_)
    · refine W_skip ?_
      refine At_seq ?_
      refine W_seq ?_
      refine W_block ?_
      refine W_seqr ?_
      refine S_pu 1 rfl ?_
      refine S_index rfl rfl Try.underlying23 zr32 hl i rfl (by omega) rfl ?_
      rintro p7 _ ⟨_, _, rfl, rfl, e7v, rfl, e7h⟩ hp7
      refine S_v (r_loadN rfl Try.underlying32 rfl zr32 hp7 hL5.arg) rfl ?_
      refine S_alloc zr32 rfl rfl hL5 ?_
      intro w8 b8 hL8 hle8 _
      refine S_pu 1 rfl ?_
      refine S_storeBN 0 rfl rfl rfl zr32 hL8 rfl rfl (onc rfl (onc e7h.one on0)) ?_
      intro w9 hL9 hle9
      refine S_seqnil ?_
      refine W_block ?_
      refine W_seqr ?_
      refine S_v (r_field rfl Try.underlying32 rfl zr3 (by decide)) rfl ?_
      refine S_v (r_loadB1 0 rfl Try.underlying3 rfl hL9 rfl rfl) rfl ?_
      refine S_pu 2 rfl ?_
      refine S_split (s := 20) rfl (fun hg10 => ?_) (fun hg10 => ?_)
      · have hbad := of_decide_eq_true hg10
        refine S_unwanted rfl rfl hg10 rfl ?_
        refine S_unwanted rfl rfl hg10 rfl ?_
        refine S_unwanted rfl rfl hg10 rfl ?_
        refine S_v (r_pickT rfl hg10 rfl) rfl ?_
        refine S_pu 1 rfl ?_
        refine S_seqnil ?_
        refine W_true rfl ?_
        refine W_seqr ?_
        refine S_pu 1 rfl ?_
        refine S_callL rfl rfl hL9 (sfault_ok _ ) ?_
        rintro _ w11 rfl hx11 hL11 hle11
        refine S_storeBN 1 rfl rfl rfl zr25 hL11 rfl rfl (onc rfl (onc rfl on0)) ?_
        intro w12 hL12 hle12
        refine S_seqnil ?_
        refine W_ret ?_
        refine At_block_ret ?_
        refine At_block_ret ?_
        refine At_seq_ret ?_
        refine At_loop_ret ?_
        refine At_block_ret ?_
        refine At_seq_ret ?_
        refine At_got1 rfl (.cell rfl Try.underlying25 rfl zr25 (box_ptr (i := 1) hL12 rfl)) ?_
        exact ⟨hL12.ext, by rw [chF_hit hch (by omega) (by unfold M.chk1; rw [if_pos (by omega)]) (by decide)]; rfl⟩
      · have hlow := of_decide_eq_false hg10
        refine S_guarded rfl rfl hg10 ?_
        refine S_v (r_field rfl Try.underlying32 rfl zr3 (by decide)) rfl ?_
        refine S_guarded rfl rfl hg10 ?_
        refine S_v (r_loadB1 0 rfl Try.underlying3 rfl hL9 rfl rfl) rfl ?_
        refine S_guarded rfl rfl hg10 ?_
        refine S_v (RunsAt_pu rfl) rfl ?_
        refine S_v (r_pickF rfl hg10 rfl) rfl ?_
        refine S_pu 1 rfl ?_
        refine S_seqnil ?_
        refine W_if rfl (fun hc13 => ?_) (fun hc13 => ?_)
        · refine W_seqr ?_
          refine S_pu 1 rfl ?_
          refine S_callL rfl rfl hL9 (sfault_ok _ ) ?_
          rintro _ w14 rfl hx14 hL14 hle14
          refine S_storeBN 1 rfl rfl rfl zr25 hL14 rfl rfl (onc rfl (onc rfl on0)) ?_
          intro w15 hL15 hle15
          refine S_seqnil ?_
          refine W_ret ?_
          refine At_block_ret ?_
          refine At_block_ret ?_
          refine At_seq_ret ?_
          refine At_loop_ret ?_
          refine At_block_ret ?_
          refine At_seq_ret ?_
          refine At_got1 rfl (.cell rfl Try.underlying25 rfl zr25 (box_ptr (i := 1) hL15 rfl)) ?_
          exact ⟨hL15.ext, by rw [chF_hit hch (by omega) (by unfold M.chk1; rw [if_pos (by omega)]) (by decide)]; rfl⟩
        · refine W_seqr ?_
          refine S_pu 2 rfl ?_
          refine S_slice rfl Try.underlying23 zr32 hl (0) (i) rfl ⟨_, rfl⟩ (by omega) rfl ?_
          intro v16 hv16
          simp only [List.drop_zero, Nat.sub_zero] at hv16
          refine S_pu 1 rfl ?_
          refine S_callL rfl rfl hL9 (containsf_ok _ (hv16.mono hL9.arg) (box_ptr (i := 0) hL9 rfl)) ?_
          rintro _ w17 rfl hx17 hL17 hle17
          refine S_pu 1 rfl ?_
          refine S_seqnil ?_
          refine W_if rfl (fun hrep => ?_) (fun hrep => ?_)
          · refine W_seqr ?_
            refine S_pu 1 rfl ?_
            refine S_callL rfl rfl hL17 (sfault_ok _ ) ?_
            rintro _ w18 rfl hx18 hL18 hle18
            refine S_storeBN 1 rfl rfl rfl zr25 hL18 rfl rfl (onc rfl (onc rfl on0)) ?_
            intro w19 hL19 hle19
            refine S_seqnil ?_
            refine W_ret ?_
            refine At_block_ret ?_
            refine At_block_ret ?_
            refine At_seq_ret ?_
            refine At_loop_ret ?_
            refine At_block_ret ?_
            refine At_seq_ret ?_
            refine At_got1 rfl (.cell rfl Try.underlying25 rfl zr25 (box_ptr (i := 1) hL19 rfl)) ?_
            exact ⟨hL19.ext, by rw [chF_hit hch (by omega) (by unfold M.chk1; rw [if_neg (by omega), if_pos hrep]) (by decide)]; rfl⟩
          · refine W_seqr ?_
            refine S_v (r_field rfl Try.underlying32 rfl zr22 (by decide)) rfl ?_
            refine S_v (r_loadB1 0 rfl Try.underlying22 rfl hL17 rfl rfl) rfl ?_
            refine S_v (r_len rfl Try.underlying22 e7h) rfl ?_
            refine S_pu 2 rfl ?_
            refine S_seqnil ?_
            refine W_if rfl (fun hc20 => ?_) (fun hc20 => ?_)
            · refine W_seqr ?_
              refine S_pu 1 rfl ?_
              refine S_callL rfl rfl hL17 (sfault_ok _ ) ?_
              rintro _ w21 rfl hx21 hL21 hle21
              refine S_storeBN 1 rfl rfl rfl zr25 hL21 rfl rfl (onc rfl (onc rfl on0)) ?_
              intro w22 hL22 hle22
              refine S_seqnil ?_
              refine W_ret ?_
              refine At_block_ret ?_
              refine At_block_ret ?_
              refine At_seq_ret ?_
              refine At_loop_ret ?_
              refine At_block_ret ?_
              refine At_seq_ret ?_
              refine At_got1 rfl (.cell rfl Try.underlying25 rfl zr25 (box_ptr (i := 1) hL22 rfl)) ?_
              exact ⟨hL22.ext, by rw [chF_hit hch (by omega) (by unfold M.chk1; rw [if_neg (by omega), if_neg hrep, if_pos (by omega)]) (by decide)]; rfl⟩
            · refine W_seqd (.q 0 (.q 1 (.q 2 (.q 3 (.q 4 (.q 5 (.q 6 (.q 7 (.q 8 (.q 9 (.tail 10))))))))))) mixed (by kernel_rfl) (fun w23 hx23 => ?_)
              have hL24 := hL17.call hx23
              refine D_v (r_field rfl Try.underlying32 rfl zr22 (by decide)) rfl rfl ?_
              refine D_v (r_loadB1 0 rfl Try.underlying22 rfl hL24 rfl rfl) rfl rfl ?_
              refine D_v (r_len rfl Try.underlying22 e7h) rfl rfl ?_
              refine D_pu 1 rfl ?_
              refine D_index rfl rfl rfl Try.underlying23 zr32 hl 0 rfl (by omega) rfl ?_
              rintro p25 _ ⟨_, _, rfl, rfl, e25v, rfl, e25h⟩ hp25
              refine D_v (r_field rfl Try.underlying32 rfl zr22 (by decide)) rfl rfl ?_
              have hp26 := hp25.add 1
              refine D_v (r_load1 rfl Try.underlying22 rfl hp26 hL24.arg) rfl rfl ?_
              refine D_v (r_len rfl Try.underlying22 e25h) rfl rfl ?_
              refine D_pu 2 rfl ?_
              refine D_tail (fun w27 hx27 => ?_)
              have hL28 := hL24.call hx27
              refine S_seqnil ?_
              refine W_ifn rfl (fun hlen => ?_) (fun hlen => ?_)
              · refine W_seqr ?_
                refine S_pu 1 rfl ?_
                refine S_callL rfl rfl hL28 (sfault_ok _ ) ?_
                rintro _ w29 rfl hx29 hL29 hle29
                refine S_storeBN 1 rfl rfl rfl zr25 hL29 rfl rfl (onc rfl (onc rfl on0)) ?_
                intro w30 hL30 hle30
                refine S_seqnil ?_
                refine W_ret ?_
                refine At_block_ret ?_
                refine At_block_ret ?_
                refine At_seq_ret ?_
                refine At_loop_ret ?_
                refine At_block_ret ?_
                refine At_seq_ret ?_
                refine At_got1 rfl (.cell rfl Try.underlying25 rfl zr25 (box_ptr (i := 1) hL30 rfl)) ?_
                exact ⟨hL30.ext, by rw [chF_hit hch (by omega) (by unfold M.chk1; rw [if_neg (by omega), if_neg hrep, if_neg (by omega), if_pos (by omega)]) (by decide)]; rfl⟩
              · refine W_skip ?_
                refine At_block ?_
                refine At_block ?_
                refine At_seq ?_
                refine W_region ?_
                refine S_v (r_ar64 rfl rfl rfl (by omega)) rfl ?_
                refine S_pu 1 rfl ?_
                refine S_nil ?_
                have hL31 := hL28.dropAt (i := 0) rfl
                refine At_round (i + 1) (.int rfl (by omega) (.cons rfl (.cons rfl (.cons rfl (.cons rfl (Sub.nil _)))))) ⟨hL31, by omega, chF_next hch (by omega) (by unfold M.chk1; rw [if_neg (by omega), if_neg hrep, if_neg (by omega), if_neg (by omega)])⟩ (by omega)
    · refine W_exit ?_
      refine At_seq_exit ?_
      refine At_loop_exit ?_
      refine At_exit ?_
      refine At_seq ?_
      refine W_seqr ?_
      refine S_v (r_build rfl (fun _ => bld25_z _)) rfl ?_
      refine S_storeBN 0 rfl rfl rfl zr25 hL5 rfl rfl (onc rfl (onc rfl on0)) ?_
      intro w32 hL32 hle32
      refine S_seqnil ?_
      refine W_ret ?_
      refine At_got1 rfl (.cell rfl Try.underlying25 rfl zr25 (box_ptr (i := 0) hL32 rfl)) ?_
      exact ⟨hL32.ext, by rw [chF_end hch (by omega)]; rfl⟩

theorem ch_ne {p : Int × Int} (h : ¬ (p.1 = 0 ∧ p.2 = 0)) : p ≠ (0, 0) := fun e => h (by rw [e]; exact ⟨rfl, rfl⟩)
theorem ch_eq {p : Int × Int} (h : p.1 = 0 ∧ p.2 = 0) : p = (0, 0) := Prod.ext h.1 h.2

set_option maxRecDepth 10000 in
theorem check_ok (w : World) {lv : Value} {l : List M.Sh} {m : Int} (hl : Vec shr (hp w) lv l) :
    Ok Try.prog 42 [lv, .int .i64 m] w (fun v w' => Ext w w' ∧ v = .agg #[.int .i64 (M.chkAll l m).1, .int .i64 (M.chkAll l m).2]) := by
  have hll := hl.len_le
  refine Ok_enter (n := 22) [(0, lv), (1, .int .i64 m)] Try.func42 rfl rfl rfl rfl rfl ?_
  have hL := Lcl.start w
  refine W_seqr ?_
  refine S_alloc zr25 rfl rfl hL ?_
  intro w1 b1 hL1 hle1 _
  refine S_seqnil ?_
  refine W_seq ?_
  refine W_seqr ?_
  refine S_pu 1 rfl ?_
  refine S_callL rfl rfl hL1 (checkl_ok _ (hl.mono hL1.arg)) ?_
  rintro _ w2 rfl hx2 hL2 hle2
  refine S_alloc zr25 rfl rfl hL2 ?_
  intro w3 b3 hL3 hle3 _
  refine S_storeBN 0 rfl rfl rfl zr25 hL3 rfl rfl (onc rfl (onc rfl on0)) ?_
  intro w4 hL4 hle4
  refine S_seqnil ?_
  refine W_seqr ?_
  refine S_v (r_loadBN 0 rfl Try.underlying25 rfl zr25 hL4 rfl) rfl ?_
  refine S_v (r_build rfl (fun _ => bld25_z _)) rfl ?_
  refine S_v (r_neA rfl rfl eqg25 (eq25 _ _ _ _)) rfl ?_
  refine S_seqnil ?_
  refine W_ifn rfl (fun hc => ?_) (fun hc => ?_)
  · refine W_seqr ?_
    refine S_v (r_loadBN 0 rfl Try.underlying25 rfl zr25 hL4 rfl) rfl ?_
    refine S_storeBN 1 rfl rfl rfl zr25 hL4 rfl rfl (onc rfl (onc rfl on0)) ?_
    intro w5 hL5 hle5
    refine S_seqnil ?_
    refine W_ret ?_
    refine At_seq_ret ?_
    refine At_got1 rfl (.cell rfl Try.underlying25 rfl zr25 (box_ptr (i := 1) hL5 rfl)) ?_
    exact ⟨hL5.ext, by rw [M.chkAll, if_pos (ch_ne hc)]; rfl⟩
  · refine W_skip ?_
    refine At_seq ?_
    refine W_seq ?_
    refine W_seqr ?_
    refine S_pu 1 rfl ?_
    refine S_callL rfl rfl hL4 (valid_ok _ ) ?_
    rintro _ w6 rfl hx6 hL6 hle6
    refine S_pu 1 rfl ?_
    refine S_seqnil ?_
    refine W_ifn rfl (fun hv => ?_) (fun hv => ?_)
    · refine W_seqr ?_
      refine S_callL rfl rfl hL6 (sfault_ok _ ) ?_
      rintro _ w7 rfl hx7 hL7 hle7
      refine S_storeBN 1 rfl rfl rfl zr25 hL7 rfl rfl (onc rfl (onc rfl on0)) ?_
      intro w8 hL8 hle8
      refine S_seqnil ?_
      refine W_ret ?_
      refine At_seq_ret ?_
      refine At_got1 rfl (.cell rfl Try.underlying25 rfl zr25 (box_ptr (i := 1) hL8 rfl)) ?_
      exact ⟨hL8.ext, by rw [M.chkAll, if_neg (fun h => h (ch_eq hc)), if_pos hv]; rfl⟩
    · refine W_skip ?_
      refine At_seq ?_
      refine W_seq ?_
      refine W_seqr ?_
      refine S_pu 1 rfl ?_
      refine S_v (r_len rfl Try.underlying23 hl) rfl ?_
      refine S_pu 2 rfl ?_
      refine S_seqnil ?_
      refine W_if rfl (fun hf => ?_) (fun hf => ?_)
      · refine W_seqr ?_
        refine S_callL rfl rfl hL6 (sfault_ok _ ) ?_
        rintro _ w9 rfl hx9 hL9 hle9
        refine S_storeBN 1 rfl rfl rfl zr25 hL9 rfl rfl (onc rfl (onc rfl on0)) ?_
        intro w10 hL10 hle10
        refine S_seqnil ?_
        refine W_ret ?_
        refine At_seq_ret ?_
        refine At_got1 rfl (.cell rfl Try.underlying25 rfl zr25 (box_ptr (i := 1) hL10 rfl)) ?_
        exact ⟨hL10.ext, by rw [M.chkAll, if_neg (fun h => h (ch_eq hc)), if_neg (fun h => h hv), if_pos hf]; rfl⟩
      · refine W_skip ?_
        refine At_seq ?_
        refine W_seqr ?_
        refine S_v (r_build rfl (fun _ => bld25_z _)) rfl ?_
        refine S_storeBN 1 rfl rfl rfl zr25 hL6 rfl rfl (onc rfl (onc rfl on0)) ?_
        intro w11 hL11 hle11
        refine S_seqnil ?_
        refine W_ret ?_
        refine At_got1 rfl (.cell rfl Try.underlying25 rfl zr25 (box_ptr (i := 1) hL11 rfl)) ?_
        exact ⟨hL11.ext, by rw [M.chkAll, if_neg (fun h => h (ch_eq hc)), if_neg (fun h => h hv), if_neg hf]; rfl⟩

set_option maxRecDepth 10000 in
theorem join_ok (w : World) {lv : Value} {l : List M.Sh} {m : Int} (hl : Vec shr (hp w) lv l) :
    Ok Try.prog 17 [lv, .int .i64 m] w (fun v w' => Ext w w' ∧ ∃ sv, v = .tuple #[sv, .agg #[.int .i64 (M.jnF l m).1, .int .i64 (M.jnF l m).2]] ∧ Own 5 .byte w w' sv (M.jn l m)) := by
  have hll := hl.len_le
  refine Ok_enter (n := 27) [(0, lv), (1, .int .i64 m)] Try.func17 rfl rfl rfl rfl rfl ?_
  have hL := Lcl.start w
  refine W_seqr ?_
  refine S_pu 1 rfl ?_
  refine S_alloc zr25 rfl rfl hL ?_
  intro w1 b1 hL1 hle1 _
  refine S_seqnil ?_
  refine W_seq ?_
  refine W_seqr ?_
  refine S_pu 2 rfl ?_
  refine S_callL rfl rfl hL1 (check_ok _ (hl.mono hL1.arg)) ?_
  rintro _ w2 rfl hx2 hL2 hle2
  refine S_alloc zr25 rfl rfl hL2 ?_
  intro w3 b3 hL3 hle3 _
  refine S_storeBN 0 rfl rfl rfl zr25 hL3 rfl rfl (onc rfl (onc rfl on0)) ?_
  intro w4 hL4 hle4
  refine S_seqnil ?_
  refine W_seqr ?_
  refine S_v (r_loadBN 0 rfl Try.underlying25 rfl zr25 hL4 rfl) rfl ?_
  refine S_v (r_build rfl (fun _ => bld25_z _)) rfl ?_
  refine S_v (r_neA rfl rfl eqg25 (eq25 _ _ _ _)) rfl ?_
  refine S_seqnil ?_
  refine W_ifn rfl (fun hc => ?_) (fun hc => ?_)
  · refine W_seqd (.q 0 (.q 1 (.tail 2))) mixed (by kernel_rfl) (fun w5 hx5 => ?_)
    have hL6 := hL4.call hx5
    refine D_v (r_loadBN 0 rfl Try.underlying25 rfl zr25 hL6 rfl) rfl rfl ?_
    refine D_pu 1 rfl ?_
    refine D_tail (fun w7 hx7 => ?_)
    have hL8 := hL6.call hx7
    refine S_storeBN 1 rfl rfl rfl zr25 hL8 rfl rfl (onc rfl (onc rfl on0)) ?_
    intro w9 hL9 hle9
    refine S_seqnil ?_
    refine W_ret ?_
    refine At_seq_ret ?_
    refine At_got2 rfl (.tmp rfl) (.cell rfl Try.underlying25 rfl zr25 (box_ptr (i := 1) hL9 rfl)) ?_
    have e : M.jnF l m = M.chkAll l m := by rw [M.jnF, if_pos (ch_ne hc)]
    exact ⟨hL9.ext, _, by rw [e]; rfl, by rw [M.jn, if_neg (by rw [e]; exact ch_ne hc)]; exact own_nil⟩
  · obtain ⟨gg, gk, gn, gm1, gm2, gml⟩ := M.chkAll_ok (ch_eq hc)
    have hmm : m = ((m.toNat : Nat) : Int) := (by omega)
    have hgt := gg.take (show 0 < m.toNat by omega)
    have hlt : 0 < (l.take m.toNat).length := by rw [List.length_take]; omega
    refine W.sub (L' := [(0, lv), (1, .int .i64 ((m.toNat : Nat) : Int)), (5, .pointer (some ⟨b1, 0, none⟩))]) ?_ (.cons rfl (.int rfl (by omega) (.cons rfl (.nil _))))
    refine W_skip ?_
    refine At_seq ?_
    refine W_seq ?_
    refine W_seqr ?_
    refine S_pu 2 rfl ?_
    refine S_callL rfl rfl hL4 (forged_ok _ (hl.mono hL4.arg) (by assumption) (by omega) (by omega)) ?_
    rintro _ w10 rfl hx10 hL10 hle10
    refine S_alloc zr25 rfl rfl hL10 ?_
    intro w11 b11 hL11 hle11 _
    refine S_storeBN 0 rfl rfl rfl zr25 hL11 rfl rfl (onc rfl (onc rfl on0)) ?_
    intro w12 hL12 hle12
    refine S_seqnil ?_
    refine W_seqr ?_
    refine S_v (r_loadBN 0 rfl Try.underlying25 rfl zr25 hL12 rfl) rfl ?_
    refine S_v (r_build rfl (fun _ => bld25_z _)) rfl ?_
    refine S_v (r_neA rfl rfl eqg25 (eq25 _ _ _ _)) rfl ?_
    refine S_seqnil ?_
    refine W_ifn rfl (fun hf => ?_) (fun hf => ?_)
    · refine W_seqd (.q 0 (.q 1 (.tail 2))) mixed (by kernel_rfl) (fun w13 hx13 => ?_)
      have hL14 := hL12.call hx13
      refine D_v (r_loadBN 0 rfl Try.underlying25 rfl zr25 hL14 rfl) rfl rfl ?_
      refine D_pu 1 rfl ?_
      refine D_tail (fun w15 hx15 => ?_)
      have hL16 := hL14.call hx15
      refine S_storeBN 2 rfl rfl rfl zr25 hL16 rfl rfl (onc rfl (onc rfl on0)) ?_
      intro w17 hL17 hle17
      refine S_seqnil ?_
      refine W_ret ?_
      refine At_seq_ret ?_
      refine At_got2 rfl (.tmp rfl) (.cell rfl Try.underlying25 rfl zr25 (box_ptr (i := 2) hL17 rfl)) ?_
      have e : M.jnF l m = M.frg l m.toNat := by rw [M.jnF, if_neg (fun h => h (ch_eq hc))]
      exact ⟨hL17.ext, _, by rw [e]; rfl, by rw [M.jn, if_neg (by rw [e]; exact ch_ne hf)]; exact own_nil⟩
    · refine W_skip ?_
      refine At_seq ?_
      refine W_seqr ?_
      refine S_pu 2 rfl ?_
      refine S_slice rfl Try.underlying23 zr32 hl (0) (m.toNat) rfl ⟨_, rfl⟩ (by omega) rfl ?_
      intro v18 hv18
      simp only [List.drop_zero, Nat.sub_zero] at hv18
      refine S_callL rfl rfl hL12 (at_ok (x := 0) _ (hv18.mono hL12.arg) (by assumption) (by assumption)) ?_
      intro v19 w19 hR19 hx19 _ _
      obtain ⟨xs19, hL19, hle19, he19⟩ := hR19.take hL12 hx19
      obtain rfl := bytes_elems he19
      refine S_v (r_build rfl (fun _ => bld25_z _)) rfl ?_
      refine S_pu 1 rfl ?_
      refine S_storeBN 3 rfl rfl rfl zr25 hL19 rfl rfl (onc rfl (onc rfl on0)) ?_
      intro w20 hL20 hle20
      replace he19 := he19.mono hle20
      refine S_seqnil ?_
      refine W_ret ?_
      refine At_got2 rfl (.tmp rfl) (.cell rfl Try.underlying25 rfl zr25 (box_ptr (i := 3) hL20 rfl)) ?_
      have e : M.jnF l m = (0, 0) := by rw [M.jnF, if_neg (fun h => h (ch_eq hc))]; exact ch_eq hf
      exact ⟨hL20.ext, _, by rw [e]; rfl, by rw [M.jn, if_pos e]; exact hL20.own' (i := 0) (l := M.atS (l.take m.toNat) 0) rfl (elems_bytes _ _)⟩

set_option maxRecDepth 10000 in
theorem sat_ok (w : World) {lv : Value} {l : List M.Sh} {m k : Int} (hl : Vec shr (hp w) lv l) :
    Ok Try.prog 18 [lv, .int .i64 m, .int .i64 k] w (fun v w' => Ext w w' ∧ ∃ dv, v = .tuple #[.agg #[.int .i64 (M.axK l m k), dv], .agg #[.int .i64 (M.axF l m k).1, .int .i64 (M.axF l m k).2]] ∧ Own 5 .byte w w' dv (M.axD l m k)) := by
  have hll := hl.len_le
  refine Ok_enter (n := 43) [(0, lv), (1, .int .i64 m), (2, .int .i64 k)] Try.func18 rfl rfl rfl rfl rfl ?_
  have hL := Lcl.start w
  refine W_seqr ?_
  refine S_alloc zr32 rfl rfl hL ?_
  intro w1 b1 hL1 hle1 _
  refine S_alloc zr25 rfl rfl hL1 ?_
  intro w2 b2 hL2 hle2 _
  refine S_seqnil ?_
  refine W_seq ?_
  refine W_seqr ?_
  refine S_pu 2 rfl ?_
  refine S_callL rfl rfl hL2 (check_ok _ (hl.mono hL2.arg)) ?_
  rintro _ w3 rfl hx3 hL3 hle3
  refine S_alloc zr25 rfl rfl hL3 ?_
  intro w4 b4 hL4 hle4 _
  refine S_storeBN 0 rfl rfl rfl zr25 hL4 rfl rfl (onc rfl (onc rfl on0)) ?_
  intro w5 hL5 hle5
  refine S_seqnil ?_
  refine W_seqr ?_
  refine S_v (r_loadBN 0 rfl Try.underlying25 rfl zr25 hL5 rfl) rfl ?_
  refine S_v (r_build rfl (fun _ => bld25_z _)) rfl ?_
  refine S_v (r_neA rfl rfl eqg25 (eq25 _ _ _ _)) rfl ?_
  refine S_seqnil ?_
  refine W_ifn rfl (fun hc => ?_) (fun hc => ?_)
  · refine W_seqn mixed rfl (fun w6 hx6 => ?_)
    have hL7 := hL5.call hx6
    refine N2 (i := 0) (j := 1) (by kernel_rfl) rfl rfl ?_ ?_
    · refine S_v (r_build rfl (fun _ => bld32_z _)) rfl ?_
      refine N_nil ?_
      refine N2 (i := 1) (j := 2) (by kernel_rfl) rfl rfl ?_ ?_
      · refine S_v (r_loadBN 0 rfl Try.underlying25 rfl zr25 hL7 rfl) rfl ?_
        refine N_nil ?_
        refine N1 (i := 2) (by kernel_rfl) rfl ?_
        refine S_storeBN 2 rfl rfl rfl zr32 hL7 rfl rfl (onc rfl (onc rfl on0)) ?_
        intro w8 hL8 hle8
        refine N_nil ?_
        refine N1 (i := 3) (by kernel_rfl) rfl ?_
        refine S_storeBN 1 rfl rfl rfl zr25 hL8 rfl rfl (onc rfl (onc rfl on0)) ?_
        intro w9 hL9 hle9
        refine N_nil ?_
        refine N_end (by kernel_rfl) ?_
        refine At_seq ?_
        refine W_ret ?_
        refine At_seq_ret ?_
        refine At_got2 rfl (.cell rfl Try.underlying32 rfl zr32 (box_ptr (i := 2) hL9 rfl)) (.cell rfl Try.underlying25 rfl zr25 (box_ptr (i := 1) hL9 rfl)) ?_
        have e : M.axF l m k = M.chkAll l m := by rw [M.axF, if_pos (ch_ne hc)]
        exact ⟨hL9.ext, _, by rw [M.axK, if_neg (by rw [e]; exact ch_ne hc), e]; rfl, by rw [M.axD, if_neg (by rw [e]; exact ch_ne hc)]; exact own_nil⟩
      · refine S_storeBN 2 rfl rfl rfl zr32 hL7 rfl rfl (onc rfl (onc rfl on0)) ?_
        intro w10 hL10 hle10
        refine N_nil ?_
        refine N1 (i := 1) (by kernel_rfl) rfl ?_
        refine S_v (r_loadBN 0 rfl Try.underlying25 rfl zr25 hL10 rfl) rfl ?_
        refine N_nil ?_
        refine N1 (i := 3) (by kernel_rfl) rfl ?_
        refine S_storeBN 1 rfl rfl rfl zr25 hL10 rfl rfl (onc rfl (onc rfl on0)) ?_
        intro w11 hL11 hle11
        refine N_nil ?_
        refine N_end (by kernel_rfl) ?_
        refine At_seq ?_
        refine W_ret ?_
        refine At_seq_ret ?_
        refine At_got2 rfl (.cell rfl Try.underlying32 rfl zr32 (box_ptr (i := 2) hL11 rfl)) (.cell rfl Try.underlying25 rfl zr25 (box_ptr (i := 1) hL11 rfl)) ?_
        have e : M.axF l m k = M.chkAll l m := by rw [M.axF, if_pos (ch_ne hc)]
        exact ⟨hL11.ext, _, by rw [M.axK, if_neg (by rw [e]; exact ch_ne hc), e]; rfl, by rw [M.axD, if_neg (by rw [e]; exact ch_ne hc)]; exact own_nil⟩
    · refine S_v (r_loadBN 0 rfl Try.underlying25 rfl zr25 hL7 rfl) rfl ?_
      refine N_nil ?_
      refine N1 (i := 0) (by kernel_rfl) rfl ?_
      refine S_v (r_build rfl (fun _ => bld32_z _)) rfl ?_
      refine N_nil ?_
      refine N1 (i := 2) (by kernel_rfl) rfl ?_
      refine S_storeBN 2 rfl rfl rfl zr32 hL7 rfl rfl (onc rfl (onc rfl on0)) ?_
      intro w12 hL12 hle12
      refine N_nil ?_
      refine N1 (i := 3) (by kernel_rfl) rfl ?_
      refine S_storeBN 1 rfl rfl rfl zr25 hL12 rfl rfl (onc rfl (onc rfl on0)) ?_
      intro w13 hL13 hle13
      refine N_nil ?_
      refine N_end (by kernel_rfl) ?_
      refine At_seq ?_
      refine W_ret ?_
      refine At_seq_ret ?_
      refine At_got2 rfl (.cell rfl Try.underlying32 rfl zr32 (box_ptr (i := 2) hL13 rfl)) (.cell rfl Try.underlying25 rfl zr25 (box_ptr (i := 1) hL13 rfl)) ?_
      have e : M.axF l m k = M.chkAll l m := by rw [M.axF, if_pos (ch_ne hc)]
      exact ⟨hL13.ext, _, by rw [M.axK, if_neg (by rw [e]; exact ch_ne hc), e]; rfl, by rw [M.axD, if_neg (by rw [e]; exact ch_ne hc)]; exact own_nil⟩
  · obtain ⟨gg, gk, gn, gm1, gm2, gml⟩ := M.chkAll_ok (ch_eq hc)
    have hmm : m = ((m.toNat : Nat) : Int) := (by omega)
    have hgt := gg.take (show 0 < m.toNat by omega)
    have hlt : 0 < (l.take m.toNat).length := by rw [List.length_take]; omega
    refine W.sub (L' := [(0, lv), (1, .int .i64 ((m.toNat : Nat) : Int)), (2, .int .i64 k), (6, .pointer (some ⟨b1, 0, none⟩)), (7, .pointer (some ⟨b2, 0, none⟩))]) ?_ (.cons rfl (.int rfl (by omega) (.cons rfl (.cons rfl (.cons rfl (.nil _))))))
    refine W_skip ?_
    refine At_seq ?_
    refine W_seq ?_
    refine W_seqr ?_
    refine S_pu 3 rfl ?_
    refine S_or 2 2 rfl rfl rfl rfl rfl rfl ?_
    refine S_seqnil ?_
    refine W_if rfl (fun hr => ?_) (fun hr => ?_)
    · refine W_seqr ?_
      refine S_v (r_build rfl (fun _ => bld32_z _)) rfl ?_
      refine S_callL rfl rfl hL5 (sfault_ok _ ) ?_
      rintro _ w14 rfl hx14 hL14 hle14
      refine S_storeBN 2 rfl rfl rfl zr32 hL14 rfl rfl (onc rfl (onc rfl on0)) ?_
      intro w15 hL15 hle15
      refine S_storeBN 1 rfl rfl rfl zr25 hL15 rfl rfl (onc rfl (onc rfl on0)) ?_
      intro w16 hL16 hle16
      refine S_seqnil ?_
      refine W_ret ?_
      refine At_seq_ret ?_
      refine At_got2 rfl (.cell rfl Try.underlying32 rfl zr32 (box_ptr (i := 2) hL16 rfl)) (.cell rfl Try.underlying25 rfl zr25 (box_ptr (i := 1) hL16 rfl)) ?_
      have e : M.axF l m k = (4, -3) := by rw [M.axF, if_neg (fun h => h (ch_eq hc)), if_pos hr]
      exact ⟨hL16.ext, _, by rw [M.axK, if_neg (by rw [e]; decide), e]; rfl, by rw [M.axD, if_neg (by rw [e]; decide)]; exact own_nil⟩
    · refine W_skip ?_
      refine At_seq ?_
      refine W_seq ?_
      refine W_seqr ?_
      refine S_pu 2 rfl ?_
      refine S_callL rfl rfl hL5 (forged_ok _ (hl.mono hL5.arg) (by assumption) (by omega) (by omega)) ?_
      rintro _ w17 rfl hx17 hL17 hle17
      refine S_alloc zr25 rfl rfl hL17 ?_
      intro w18 b18 hL18 hle18 _
      refine S_storeBN 0 rfl rfl rfl zr25 hL18 rfl rfl (onc rfl (onc rfl on0)) ?_
      intro w19 hL19 hle19
      refine S_seqnil ?_
      refine W_seqr ?_
      refine S_v (r_loadBN 0 rfl Try.underlying25 rfl zr25 hL19 rfl) rfl ?_
      refine S_v (r_build rfl (fun _ => bld25_z _)) rfl ?_
      refine S_v (r_neA rfl rfl eqg25 (eq25 _ _ _ _)) rfl ?_
      refine S_seqnil ?_
      refine W_ifn rfl (fun hf => ?_) (fun hf => ?_)
      · refine W_seqn mixed rfl (fun w20 hx20 => ?_)
        have hL21 := hL19.call hx20
        refine N2 (i := 0) (j := 1) (by kernel_rfl) rfl rfl ?_ ?_
        · refine S_v (r_build rfl (fun _ => bld32_z _)) rfl ?_
          refine N_nil ?_
          refine N2 (i := 1) (j := 2) (by kernel_rfl) rfl rfl ?_ ?_
          · refine S_v (r_loadBN 0 rfl Try.underlying25 rfl zr25 hL21 rfl) rfl ?_
            refine N_nil ?_
            refine N1 (i := 2) (by kernel_rfl) rfl ?_
            refine S_storeBN 3 rfl rfl rfl zr32 hL21 rfl rfl (onc rfl (onc rfl on0)) ?_
            intro w22 hL22 hle22
            refine N_nil ?_
            refine N1 (i := 3) (by kernel_rfl) rfl ?_
            refine S_storeBN 2 rfl rfl rfl zr25 hL22 rfl rfl (onc rfl (onc rfl on0)) ?_
            intro w23 hL23 hle23
            refine N_nil ?_
            refine N_end (by kernel_rfl) ?_
            refine At_seq ?_
            refine W_ret ?_
            refine At_seq_ret ?_
            refine At_got2 rfl (.cell rfl Try.underlying32 rfl zr32 (box_ptr (i := 3) hL23 rfl)) (.cell rfl Try.underlying25 rfl zr25 (box_ptr (i := 2) hL23 rfl)) ?_
            have e : M.axF l m k = M.frg l m.toNat := by rw [M.axF, if_neg (fun h => h (ch_eq hc)), if_neg hr]
            exact ⟨hL23.ext, _, by rw [M.axK, if_neg (by rw [e]; exact ch_ne hf), e]; rfl, by rw [M.axD, if_neg (by rw [e]; exact ch_ne hf)]; exact own_nil⟩
          · refine S_storeBN 3 rfl rfl rfl zr32 hL21 rfl rfl (onc rfl (onc rfl on0)) ?_
            intro w24 hL24 hle24
            refine N_nil ?_
            refine N1 (i := 1) (by kernel_rfl) rfl ?_
            refine S_v (r_loadBN 0 rfl Try.underlying25 rfl zr25 hL24 rfl) rfl ?_
            refine N_nil ?_
            refine N1 (i := 3) (by kernel_rfl) rfl ?_
            refine S_storeBN 2 rfl rfl rfl zr25 hL24 rfl rfl (onc rfl (onc rfl on0)) ?_
            intro w25 hL25 hle25
            refine N_nil ?_
            refine N_end (by kernel_rfl) ?_
            refine At_seq ?_
            refine W_ret ?_
            refine At_seq_ret ?_
            refine At_got2 rfl (.cell rfl Try.underlying32 rfl zr32 (box_ptr (i := 3) hL25 rfl)) (.cell rfl Try.underlying25 rfl zr25 (box_ptr (i := 2) hL25 rfl)) ?_
            have e : M.axF l m k = M.frg l m.toNat := by rw [M.axF, if_neg (fun h => h (ch_eq hc)), if_neg hr]
            exact ⟨hL25.ext, _, by rw [M.axK, if_neg (by rw [e]; exact ch_ne hf), e]; rfl, by rw [M.axD, if_neg (by rw [e]; exact ch_ne hf)]; exact own_nil⟩
        · refine S_v (r_loadBN 0 rfl Try.underlying25 rfl zr25 hL21 rfl) rfl ?_
          refine N_nil ?_
          refine N1 (i := 0) (by kernel_rfl) rfl ?_
          refine S_v (r_build rfl (fun _ => bld32_z _)) rfl ?_
          refine N_nil ?_
          refine N1 (i := 2) (by kernel_rfl) rfl ?_
          refine S_storeBN 3 rfl rfl rfl zr32 hL21 rfl rfl (onc rfl (onc rfl on0)) ?_
          intro w26 hL26 hle26
          refine N_nil ?_
          refine N1 (i := 3) (by kernel_rfl) rfl ?_
          refine S_storeBN 2 rfl rfl rfl zr25 hL26 rfl rfl (onc rfl (onc rfl on0)) ?_
          intro w27 hL27 hle27
          refine N_nil ?_
          refine N_end (by kernel_rfl) ?_
          refine At_seq ?_
          refine W_ret ?_
          refine At_seq_ret ?_
          refine At_got2 rfl (.cell rfl Try.underlying32 rfl zr32 (box_ptr (i := 3) hL27 rfl)) (.cell rfl Try.underlying25 rfl zr25 (box_ptr (i := 2) hL27 rfl)) ?_
          have e : M.axF l m k = M.frg l m.toNat := by rw [M.axF, if_neg (fun h => h (ch_eq hc)), if_neg hr]
          exact ⟨hL27.ext, _, by rw [M.axK, if_neg (by rw [e]; exact ch_ne hf), e]; rfl, by rw [M.axD, if_neg (by rw [e]; exact ch_ne hf)]; exact own_nil⟩
      · refine W_skip ?_
        refine At_seq ?_
        refine W_seqr ?_
        refine S_pu 3 rfl ?_
        refine S_slice rfl Try.underlying23 zr32 hl (0) (m.toNat) rfl ⟨_, rfl⟩ (by omega) rfl ?_
        intro v28 hv28
        simp only [List.drop_zero, Nat.sub_zero] at hv28
        refine S_pu 1 rfl ?_
        refine S_v (r_conv Try.underlying3 Try.underlying5 rfl (conv_64_8 (by omega))) rfl ?_
        refine S_callL rfl rfl hL19 (at_ok _ (hv28.mono hL19.arg) (by assumption) (by assumption)) ?_
        intro v29 w29 hR29 hx29 _ _
        obtain ⟨xs29, hL29, hle29, he29⟩ := hR29.take hL19 hx29
        obtain rfl := bytes_elems he29
        refine S_v (r_build rfl (fun _ => bld32_0_1 _ _ (row_one (hL29.at (i := 0) rfl)) _)) rfl ?_
        refine S_v (r_build rfl (fun _ => bld25_z _)) rfl ?_
        refine S_storeBN 4 rfl rfl rfl zr32 hL29 rfl rfl (onc rfl (onc (row_one (hL29.at (i := 0) rfl)) on0)) ?_
        intro w30 hL30 hle30
        replace he29 := he29.mono hle30
        refine S_storeBN 3 rfl rfl rfl zr25 hL30 rfl rfl (onc rfl (onc rfl on0)) ?_
        intro w31 hL31 hle31
        replace he29 := he29.mono hle31
        refine S_seqnil ?_
        refine W_ret ?_
        refine At_got2 rfl (.cell rfl Try.underlying32 rfl zr32 (box_ptr (i := 4) hL31 rfl)) (.cell rfl Try.underlying25 rfl zr25 (box_ptr (i := 3) hL31 rfl)) ?_
        have e : M.axF l m k = (0, 0) := by rw [M.axF, if_neg (fun h => h (ch_eq hc)), if_neg hr]; exact ch_eq hf
        exact ⟨hL31.ext, _, by rw [M.axK, if_pos e, e]; rfl, by rw [M.axD, if_pos e]; exact hL31.own' (i := 0) (l := M.atS (l.take m.toNat) (M.kb k)) rfl (elems_bytes _ _)⟩

set_option maxRecDepth 10000 in
theorem eval_ok (w : World) {sv rv : Value} {S R : List UInt8} {m : Nat} {x : UInt8} (hs : Vec .byte (hp w) sv S) (hr : Vec .byte (hp w) rv R) (hn : S.length ≤ 4096) (hm1 : 1 ≤ m) (hm2 : m ≤ 10) (hR : R.length = (m - 1) * S.length) :
    Ok Try.prog 39 [sv, .int .i64 (m : Int), rv, .int .u8 (x.toNat : Int)] w (fun v w' => Ext w w' ∧ Own 5 .byte w w' v (M.ev S m R x)) := by
  refine Ok_enter (n := 51) [(0, sv), (1, .int .i64 (m : Int)), (2, rv), (3, .int .u8 (x.toNat : Int))] Try.func39 rfl rfl rfl rfl rfl ?_
  have hL := Lcl.start w
  refine W_seqr ?_
  refine S_pu 1 rfl ?_
  refine S_seqnil ?_
  refine W_seqr ?_
  refine S_pu 1 rfl ?_
  refine S_v (r_len rfl Try.underlying22 hs) rfl ?_
  refine S_pu 1 rfl ?_
  refine S_seqnil ?_
  refine W_seqr ?_
  refine S_pu 1 rfl ?_
  refine S_callL rfl rfl hL (cloneb_ok _ (hs.mono hL.arg) (by first | assumption | omega)) ?_
  intro v1 w1 hR1 hx1 _ _
  obtain ⟨xs1, hL1, hle1, he1⟩ := hR1.take hL hx1
  obtain rfl := bytes_elems he1
  refine S_pu 1 rfl ?_
  refine S_seqnil ?_
  refine W_seqr ?_
  refine S_pu 1 rfl ?_
  refine S_seqnil ?_
  refine W_seq ?_
  refine W_seqr ?_
  refine S_pu 1 rfl ?_
  refine S_v (r_ar64 rfl rfl rfl (by omega)) rfl ?_
  refine S_pu 1 rfl ?_
  refine S_seqnil ?_
  refine W_block ?_
  refine W_loop (σ := Nat) (fun k => [(11, .int .u8 ((M.evP x k).toNat : Int)), (20, .int .i64 (k : Int)), (2, rv), (3, .int .u8 (x.toNat : Int)), (8, .slice none 0 0), (9, .int .i64 ((S).length : Int)), (10, v1), (19, .int .i64 ((m : Int) - 1))]) (fun k wr => Lcl w [.row v1 5 1 S.length ((M.evF S R x k).map bv)] wr ∧ k ≤ m - 1) (fun k => m - 1 - k) 0 (.int rfl rfl (.cons rfl (.cons rfl (.cons rfl (.cons rfl (.cons rfl (.cons rfl (.cons rfl (Sub.nil _))))))))) ⟨hL1, Nat.zero_le _⟩ ?_
  rintro k wr2 ⟨hL2, hkl⟩
  refine W_seqr ?_
  refine S_pu 1 rfl ?_
  refine S_seqnil ?_
  refine W_seq ?_
  refine W_if rfl (fun hc3 => ?_) (fun hc3 => ?_)
  · have he1 := M.evF_length (x := x) hR k (by omega)
    have he2 := M.rnd_length hR (show k < m - 1 by omega)
    have hkn : k * S.length ≤ 9 * 4096 := Nat.mul_le_mul (by omega) hn
    refine W_skip ?_
    refine At_seq ?_
    refine W_seq ?_
    refine W_block ?_
    refine W_seqr ?_
    refine S_pu 2 rfl ?_
    refine S_seqnil ?_
    refine W_seqr ?_
    refine S_pu 2 rfl ?_
    refine S_callL rfl rfl hL2 (mul_ok _ ) ?_
    rintro _ w4 rfl hx4 hL4 hle4
    refine S_pu 1 rfl ?_
    refine S_seqnil ?_
    refine W_seqr ?_
    refine S_pu 2 rfl ?_
    refine S_seqnil ?_
    refine W_block ?_
    refine W_loop (σ := Nat) (fun i => [(11, .int .u8 ((M.evP x (k + 1)).toNat : Int)), (27, .int .i64 (i : Int)), (2, rv), (3, .int .u8 (x.toNat : Int)), (8, .slice none 0 0), (9, .int .i64 ((S).length : Int)), (10, v1), (12, .int .i64 (k : Int)), (19, .int .i64 ((m : Int) - 1)), (20, .int .i64 (k : Int)), (26, .int .i64 ((S).length : Int))]) (fun i wr => Lcl w [.row v1 5 1 S.length ((M.addTo (M.evP x (k + 1)) (M.evF S R x k) (M.rnd R S.length k) i).map bv)] wr ∧ i ≤ S.length) (fun i => S.length - i) 0 (.cons rfl (.cons rfl (.cons rfl (.cons rfl (.cons rfl (.cons rfl (.cons rfl (.cons rfl (.cons rfl (.cons rfl (.cons rfl (Sub.nil _)))))))))))) ⟨(by rw [M.addTo_zero]; exact hL4), Nat.zero_le _⟩ ?_
    rintro i wr5 ⟨hL5, hil⟩
    refine W_seqr ?_
    refine S_pu 1 rfl ?_
    refine S_seqnil ?_
    refine W_seq ?_
    refine W_if rfl (fun hc6 => ?_) (fun hc6 => ?_)
    · refine W_skip ?_
      refine At_seq ?_
      refine W_seq ?_
      refine W_block ?_
      refine W_seqr ?_
      refine S_pu 2 rfl ?_
      refine S_seqnil ?_
      refine W_regd (.q 0 (.q 1 (.q 2 (.q 3 (.q 4 (.q 5 (.q 6 (.q 7 (.q 8 (.q 9 (.q 10 (.q 11 (.q 12 (.q 13 (.q 14 (.q 15 (.q 16 (.q 17 (.tail 18))))))))))))))))))) mixed (by kernel_rfl) (fun w7 hx7 => ?_)
      have hL8 := hL5.call hx7
      refine D_pu 4 rfl ?_
      refine D_indexR 0 rfl rfl rfl Try.underlying22 zr5 hL8 rfl i rfl (by omega) rfl ?_
      intro p9 hp9
      refine D_v (r_loadR 0 rfl Try.underlying5 rfl hL8 rfl hp9 (bytes_get (M.addTo_get _ _ _ _ (by omega) (by omega)))) rfl rfl ?_
      refine D_pu 4 rfl ?_
      refine D_v (r_ar64 rfl rfl rfl (by omega)) rfl rfl ?_
      refine D_pu 1 rfl ?_
      refine D_v (r_ar64 rfl rfl rfl (by omega)) rfl rfl ?_
      refine D_index rfl rfl rfl Try.underlying22 zr5 hr (k * S.length + i) (by omega) (M.rnd_lt hR (by omega) (by omega)) rfl ?_
      rintro p10 _ rfl hp10
      refine D_v (r_load1 rfl Try.underlying5 rfl hp10 hL8.arg) rfl rfl ?_
      refine D_call rfl rfl rfl (fun w11 hx11 => mul_ok _ ) ?_
      refine D_call rfl rfl rfl (fun w12 hx12 => add_ok _ ) ?_
      refine D_indexR 0 rfl rfl rfl Try.underlying22 zr5 hL8 rfl i rfl (by omega) rfl ?_
      intro p13 hp13
      refine D_tail (fun w14 hx14 => ?_)
      have hL15 := hL8.call hx14
      refine S_storeR 0 rfl rfl rfl zr5 hL15 rfl hp13 (by rw [List.length_map, M.addTo_length _ _ _ _ (by omega) (by omega)]; omega) ?_
      intro w16 hL16 hle16
      refine S_nil ?_
      refine At_block ?_
      refine At_seq ?_
      refine W_region ?_
      refine S_v (r_ar64 rfl rfl rfl (by omega)) rfl ?_
      refine S_pu 1 rfl ?_
      refine S_nil ?_
      refine At_round (i + 1) (.cons rfl (.int rfl (by omega) (.cons rfl (.cons rfl (.cons rfl (.cons rfl (.cons rfl (.cons rfl (.cons rfl (.cons rfl (.cons rfl (Sub.nil _)))))))))))) ⟨(by have h := hL16; rw [M.rnd_get hR (by omega) (by omega)] at h; rw [← M.addTo_succ _ _ _ _ (by omega) (by omega), ← bytes_set]; exact h), by omega⟩ (by omega)
    · obtain rfl : i = S.length := (by omega)
      have hall := M.addTo_all (M.evP x (k + 1)) (M.evF S R x k) (M.rnd R S.length k) (by omega)
      rw [he1] at hall
      rw [hall] at hL5
      refine W_exit ?_
      refine At_seq_exit ?_
      refine At_loop_exit ?_
      refine At_exit ?_
      refine At_block ?_
      refine At_seq ?_
      refine W_region ?_
      refine S_v (r_ar64 rfl rfl rfl (by omega)) rfl ?_
      refine S_pu 1 rfl ?_
      refine S_nil ?_
      refine At_round (k + 1) (.cons rfl (.int rfl (by omega) (.cons rfl (.cons rfl (.cons rfl (.cons rfl (.cons rfl (.cons rfl (Sub.nil _))))))))) ⟨hL5, by omega⟩ (by omega)
  · refine W_exit ?_
    refine At_seq_exit ?_
    refine At_loop_exit ?_
    refine At_exit ?_
    refine At_seq ?_
    refine W_seqr ?_
    refine S_pu 2 rfl ?_
    refine S_seqnil ?_
    refine W_ret ?_
    refine At_body rfl rfl ?_
    obtain rfl : k = m - 1 := (by omega)
    exact ⟨hL2.ext, hL2.own' (i := 0) (l := M.ev S m R x) (by rw [M.ev, M.evF_length hR _ (Nat.le_refl _)]; rfl) (elems_bytes _ _)⟩

set_option maxRecDepth 10000 in
theorem split_ok (w : World) {sv rv : Value} {S R : List UInt8} {m kk : Int} (hs : Vec .byte (hp w) sv S) (hr : Vec .byte (hp w) rv R) :
    Ok Try.prog 12 [sv, .int .i64 m, .int .i64 kk, rv] w (fun v w' => Ext w w' ∧ ∃ ov, v = .tuple #[ov, .agg #[.int .i64 (M.spF S m kk R).1, .int .i64 (M.spF S m kk R).2]] ∧ Own 32 shr w w' ov (M.spA S m kk R)) := by
  have hls := hs.len_le
  have hlr := hr.len_le
  refine Ok_enter (n := 59) [(0, sv), (1, .int .i64 m), (2, .int .i64 kk), (3, rv)] Try.func12 rfl rfl rfl rfl rfl ?_
  have hL := Lcl.start w
  refine W_seqr ?_
  refine S_pu 1 rfl ?_
  refine S_alloc zr25 rfl rfl hL ?_
  intro w1 b1 hL1 hle1 _
  refine S_seqnil ?_
  refine W_seq ?_
  refine W_block ?_
  refine W_seqr ?_
  refine S_pu 1 rfl ?_
  refine S_v (r_len rfl Try.underlying22 hs) rfl ?_
  refine S_pu 2 rfl ?_
  refine S_seqnil ?_
  refine W_if rfl (fun h1 => ?_) (fun h1 => ?_)
  · refine W_seqr ?_
    refine S_callL rfl rfl hL1 (sfault_ok _ ) ?_
    rintro _ w2 rfl hx2 hL2 hle2
    refine S_pu 1 rfl ?_
    refine S_storeBN 0 rfl rfl rfl zr25 hL2 rfl rfl (onc rfl (onc rfl on0)) ?_
    intro w3 hL3 hle3
    refine S_seqnil ?_
    refine W_ret ?_
    refine At_block_ret ?_
    refine At_seq_ret ?_
    refine At_got2 rfl (.tmp rfl) (.cell rfl Try.underlying25 rfl zr25 (box_ptr (i := 0) hL3 rfl)) ?_
    have e : M.spF S m kk R = (3, -1) := by unfold M.spF; rw [if_pos (by omega)]
    exact ⟨hL3.ext, _, by rw [e]; rfl, by rw [M.spA, if_neg (by rw [e]; decide)]; exact own_nil⟩
  · refine W_seqr ?_
    refine S_pu 1 rfl ?_
    refine S_callL rfl rfl hL1 (valid_ok _ ) ?_
    rintro _ w4 rfl hx4 hL4 hle4
    refine S_pu 2 rfl ?_
    refine S_seqnil ?_
    refine W_ifn rfl (fun h2 => ?_) (fun h2 => ?_)
    · refine W_seqr ?_
      refine S_callL rfl rfl hL4 (sfault_ok _ ) ?_
      rintro _ w5 rfl hx5 hL5 hle5
      refine S_pu 1 rfl ?_
      refine S_storeBN 0 rfl rfl rfl zr25 hL5 rfl rfl (onc rfl (onc rfl on0)) ?_
      intro w6 hL6 hle6
      refine S_seqnil ?_
      refine W_ret ?_
      refine At_block_ret ?_
      refine At_seq_ret ?_
      refine At_got2 rfl (.tmp rfl) (.cell rfl Try.underlying25 rfl zr25 (box_ptr (i := 0) hL6 rfl)) ?_
      have e : M.spF S m kk R = (4, -2) := by unfold M.spF; rw [if_neg (by omega), if_pos h2]
      exact ⟨hL6.ext, _, by rw [e]; rfl, by rw [M.spA, if_neg (by rw [e]; decide)]; exact own_nil⟩
    · refine W_seqr ?_
      refine S_pu 4 rfl ?_
      refine S_or 2 3 rfl rfl rfl rfl rfl rfl ?_
      refine S_pu 1 rfl ?_
      refine S_seqnil ?_
      refine W_if rfl (fun h3 => ?_) (fun h3 => ?_)
      · refine W_seqr ?_
        refine S_callL rfl rfl hL4 (sfault_ok _ ) ?_
        rintro _ w7 rfl hx7 hL7 hle7
        refine S_pu 1 rfl ?_
        refine S_storeBN 0 rfl rfl rfl zr25 hL7 rfl rfl (onc rfl (onc rfl on0)) ?_
        intro w8 hL8 hle8
        refine S_seqnil ?_
        refine W_ret ?_
        refine At_block_ret ?_
        refine At_seq_ret ?_
        refine At_got2 rfl (.tmp rfl) (.cell rfl Try.underlying25 rfl zr25 (box_ptr (i := 0) hL8 rfl)) ?_
        have e : M.spF S m kk R = (4, -3) := by unfold M.spF; rw [if_neg (by omega), if_neg (fun h => h h2), if_pos h3]
        exact ⟨hL8.ext, _, by rw [e]; rfl, by rw [M.spA, if_neg (by rw [e]; decide)]; exact own_nil⟩
      · refine W_seqr ?_
        refine S_pu 1 rfl ?_
        refine S_v (r_len rfl Try.underlying22 hr) rfl ?_
        refine S_pu 1 rfl ?_
        refine S_v (r_ar64 rfl rfl rfl (by omega)) rfl ?_
        refine S_pu 1 rfl ?_
        refine S_v (r_len rfl Try.underlying22 hs) rfl ?_
        refine S_v (r_ar64 rfl rfl rfl (by have h5 : 0 ≤ (m - 1) * (S.length : Int) := Int.mul_nonneg (by omega) (by omega); have h6 : (m - 1) * (S.length : Int) ≤ 9 * 4096 := Int.mul_le_mul (by omega) (by omega) (by omega) (by omega); omega)) rfl ?_
        refine S_pu 2 rfl ?_
        refine S_seqnil ?_
        refine W_ifn rfl (fun h4 => ?_) (fun h4 => ?_)
        · refine W_seqr ?_
          refine S_callL rfl rfl hL4 (sfault_ok _ ) ?_
          rintro _ w9 rfl hx9 hL9 hle9
          refine S_pu 1 rfl ?_
          refine S_storeBN 0 rfl rfl rfl zr25 hL9 rfl rfl (onc rfl (onc rfl on0)) ?_
          intro w10 hL10 hle10
          refine S_seqnil ?_
          refine W_ret ?_
          refine At_block_ret ?_
          refine At_seq_ret ?_
          refine At_got2 rfl (.tmp rfl) (.cell rfl Try.underlying25 rfl zr25 (box_ptr (i := 0) hL10 rfl)) ?_
          have e : M.spF S m kk R = (9, -4) := by unfold M.spF; rw [if_neg (by omega), if_neg (fun h => h h2), if_neg h3, if_pos h4]
          exact ⟨hL10.ext, _, by rw [e]; rfl, by rw [M.spA, if_neg (by rw [e]; decide)]; exact own_nil⟩
        · have hm1 : 1 ≤ m.toNat := (by omega)
          have hm2 : m.toNat ≤ 10 := (by omega)
          have hn : S.length ≤ 4096 := (by omega)
          have hmm : m = ((m.toNat : Nat) : Int) := (by omega)
          have hR : R.length = (m.toNat - 1) * S.length := by
            have h7 : ((m.toNat - 1 : Nat) : Int) = m - 1 := by omega
            have h8 : (((m.toNat - 1) * S.length : Nat) : Int) = (m - 1) * (S.length : Int) := by rw [Int.natCast_mul, h7]
            omega
          refine W.sub (L' := [(0, sv), (1, .int .i64 ((m.toNat : Nat) : Int)), (2, .int .i64 kk), (3, rv), (9, .pointer (some ⟨b1, 0, none⟩)), (8, .slice none 0 0)]) ?_ (.cons rfl (.int rfl (by omega) (.cons rfl (.cons rfl (.cons rfl (.cons rfl (.nil _)))))))
          refine W_skip ?_
          refine At_block ?_
          refine At_seq ?_
          refine W_seqr ?_
          refine S_pu 1 rfl ?_
          refine S_seqnil ?_
          refine W_seq ?_
          refine W_seqr ?_
          refine S_pu 1 rfl ?_
          refine S_seqnil ?_
          refine W_block ?_
          refine W_loop (σ := Nat × Value × List Value) (fun (⟨k, ov, xs⟩ : Nat × Value × List Value) => [(10, ov), (11, .int .i64 ((k : Int) + 1)), (0, sv), (1, .int .i64 ((m.toNat : Nat) : Int)), (2, .int .i64 kk), (3, rv), (8, .slice none 0 0), (9, .pointer (some ⟨b1, 0, none⟩))]) (fun (⟨k, ov, xs⟩ : Nat × Value × List Value) wr => Lcl w [.row ov 32 2 k xs, .box b1 [.int .i64 0, .int .i64 0] 25] wr ∧ k ≤ kk.toNat ∧ Elems shr (nf w wr [.row ov 32 2 k xs, .box b1 [.int .i64 0, .int .i64 0] 25]) (M.spl S m.toNat R k) xs) (fun (⟨k, ov, xs⟩ : Nat × Value × List Value) => kk.toNat - k) (0, .slice none 0 0, []) (.cons rfl (.int rfl rfl (.cons rfl (.cons rfl (.cons rfl (.cons rfl (.cons rfl (.cons rfl (Sub.nil _))))))))) ⟨(row_nil hL4 32 2).1, Nat.zero_le _, .nil⟩ ?_
          rintro ⟨k, ov, xs⟩ wr11 ⟨hL11, hkl, he11⟩
          refine W_seq ?_
          refine W_seqr ?_
          refine S_pu 3 rfl ?_
          refine S_seqnil ?_
          refine W_if rfl (fun hc12 => ?_) (fun hc12 => ?_)
          · refine W_skip ?_
            refine At_seq ?_
            refine W_seq ?_
            refine W_block ?_
            refine W_region ?_
            refine S_pu 6 rfl ?_
            refine S_v (r_conv Try.underlying3 Try.underlying5 rfl (conv_64_8 (by omega))) rfl ?_
            refine S_callL rfl rfl hL11 (eval_ok _ (hs.mono hL11.arg) (hr.mono hL11.arg) (by omega) (by omega) (by omega) (by assumption)) ?_
            intro v13 w13 hR13 hx13 _ _
            have hv13 := hR13.vec.mono (nw_nf hL11)
            have hL13 := hL11.call hx13
            have hle13 := fz_ext hL11 hx13
            replace he11 := he11.mono (nf_mono hle13)
            refine S_v (r_build rfl (fun _ => bld32_0_1 _ _ hv13.one _)) rfl ?_
            refine S_lit (sz := 2) rfl (fun _ => bsl23_1 _ _ _) rfl (by decide) rfl hL13 ?_
            intro v14 w14 hx14 hL14 hle14 hs14 ho14
            replace he11 := he11.mono (nf_mono hle14)
            replace hv13 := hv13.mono (nf_mono hle14)
            replace hs14 := hs14.mono (nw_fz hL13)
            refine S_append 0 rfl rfl Try.underlying23 zr32 rfl (by decide) rfl hL14 rfl (hs14.mono (fz_le _ _)) (onc rfl (onc hv13.one on0)) (by omega) ?_
            intro v15 w15 hL15 hle15
            replace hs14 := hs14.mono hle15
            replace he11 := he11.mono (nf_mono hle15)
            replace hv13 := hv13.mono (nf_mono hle15)
            refine S_pu 1 rfl ?_
            refine S_nil ?_
            refine At_block ?_
            refine At_seq ?_
            refine W_region ?_
            refine S_pu 1 rfl ?_
            refine S_v (r_ar64 rfl rfl rfl (by omega)) rfl ?_
            refine S_pu 1 rfl ?_
            refine S_nil ?_
            refine At_round (k + 1, v15, _) (.cons rfl (.int rfl (by omega) (.cons rfl (.cons rfl (.cons rfl (.cons rfl (.cons rfl (.cons rfl (Sub.nil _))))))))) ⟨hL15, by omega, (by rw [M.spl_succ]; exact he11.append (.single ⟨_, _, rfl, rfl, _, rfl, hv13⟩))⟩ (by show kk.toNat - (k + 1) < kk.toNat - k; omega)
          · refine W_exit ?_
            refine At_seq_exit ?_
            refine At_loop_exit ?_
            refine At_exit ?_
            refine At_seq ?_
            refine W_seqr ?_
            refine S_pu 1 rfl ?_
            refine S_v (r_build rfl (fun _ => bld25_z _)) rfl ?_
            refine S_pu 1 rfl ?_
            refine S_storeBN 1 rfl rfl rfl zr25 hL11 rfl rfl (onc rfl (onc rfl on0)) ?_
            intro w16 hL16 hle16
            replace he11 := he11.mono (nf_mono hle16)
            refine S_seqnil ?_
            refine W_ret ?_
            refine At_got2 rfl (.tmp rfl) (.cell rfl Try.underlying25 rfl zr25 (box_ptr (i := 1) hL16 rfl)) ?_
            have e : M.spF S m kk R = (0, 0) := by unfold M.spF; rw [if_neg (by omega), if_neg (fun h => h h2), if_neg h3, if_neg (fun h => h h4)]
            obtain rfl : k = kk.toNat := (by omega)
            exact ⟨hL16.ext, _, by rw [e]; rfl, by rw [M.spA, if_pos e]; exact hL16.ownN (i := 0) (by rw [M.spl_length]; rfl) he11⟩
end Go.Proofs.Ytidedcbaahiplaa
