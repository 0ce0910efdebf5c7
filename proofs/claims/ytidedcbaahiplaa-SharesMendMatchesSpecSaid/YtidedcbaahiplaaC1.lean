/- Contracts of the small functions. -/
import Derived.Test.YtidedcbaahiplaaFacts
import Derived.Test.YtidedcbaahiplaaMath
import Derived.KernelRfl
namespace Go.Proofs.Ytidedcbaahiplaa
open Go Go.E Go.RowKit
set_option maxRecDepth 10000 in
theorem in_ok (w : World) {a b c : Int} :
    Ok Try.prog 29 [.int .i64 a, .int .i64 b, .int .i64 c] w (fun v w' => Ext w w' ∧ v = .bool (decide (b ≤ a ∧ a ≤ c))) := by
  refine Ok_enter (n := 15) [(0, .int .i64 a), (1, .int .i64 b), (2, .int .i64 c)] Try.func29 rfl rfl rfl rfl rfl ?_
  have hL := Lcl.start w
  refine W_seqr ?_
  refine S_pu 1 rfl ?_
  refine S_seqnil ?_
  refine W_seqr ?_
  refine S_pu 4 rfl ?_
  refine S_and 3 3 rfl rfl rfl rfl rfl rfl ?_
  refine S_pu 1 rfl ?_
  refine S_seqnil ?_
  refine W_ret ?_
  refine At_body rfl rfl ?_
  exact ⟨hL.ext, rfl⟩

set_option maxRecDepth 10000 in
theorem rat_ok (w : World) {a b : Int} :
    Ok Try.prog 23 [.int .i64 a, .int .i64 b] w (fun v w' => Ext w w' ∧ v = .agg #[.int .i64 a, .int .i64 b]) := by
  refine Ok_enter (n := 8) [(0, .int .i64 a), (1, .int .i64 b)] Try.func23 rfl rfl rfl rfl rfl ?_
  have hL := Lcl.start w
  refine W_seqr ?_
  refine S_alloc zr25 rfl rfl hL ?_
  intro w1 b1 hL1 hle1 _
  refine S_seqnil ?_
  refine W_seqr ?_
  refine S_pu 2 rfl ?_
  refine S_v (r_build rfl (fun _ => bld25_0_1 _ _ _)) rfl ?_
  refine S_storeBN 0 rfl rfl rfl zr25 hL1 rfl rfl (onc rfl (onc rfl on0)) ?_
  intro w2 hL2 hle2
  refine S_seqnil ?_
  refine W_ret ?_
  refine At_got1 rfl (.cell rfl Try.underlying25 rfl zr25 (box_ptr (i := 0) hL2 rfl)) ?_
  exact ⟨hL2.ext, rfl⟩

set_option maxRecDepth 10000 in
theorem sfault_ok (w : World) {a b : Int} :
    Ok Try.prog 37 [.int .i64 a, .int .i64 b] w (fun v w' => Ext w w' ∧ v = .agg #[.int .i64 a, .int .i64 b]) := by
  refine Ok_enter (n := 8) [(0, .int .i64 a), (1, .int .i64 b)] Try.func37 rfl rfl rfl rfl rfl ?_
  have hL := Lcl.start w
  refine W_seqr ?_
  refine S_alloc zr25 rfl rfl hL ?_
  intro w1 b1 hL1 hle1 _
  refine S_seqnil ?_
  refine W_seqr ?_
  refine S_pu 2 rfl ?_
  refine S_v (r_build rfl (fun _ => bld25_0_1 _ _ _)) rfl ?_
  refine S_storeBN 0 rfl rfl rfl zr25 hL1 rfl rfl (onc rfl (onc rfl on0)) ?_
  intro w2 hL2 hle2
  refine S_seqnil ?_
  refine W_ret ?_
  refine At_got1 rfl (.cell rfl Try.underlying25 rfl zr25 (box_ptr (i := 0) hL2 rfl)) ?_
  exact ⟨hL2.ext, rfl⟩

set_option maxRecDepth 10000 in
theorem gfault_ok (w : World) {a b : Int} :
    Ok Try.prog 67 [.int .i64 a, .int .i64 b] w (fun v w' => Ext w w' ∧ v = .agg #[.int .i64 a, .int .i64 b]) := by
  refine Ok_enter (n := 8) [(0, .int .i64 a), (1, .int .i64 b)] Try.func67 rfl rfl rfl rfl rfl ?_
  have hL := Lcl.start w
  refine W_seqr ?_
  refine S_alloc zr25 rfl rfl hL ?_
  intro w1 b1 hL1 hle1 _
  refine S_seqnil ?_
  refine W_seqr ?_
  refine S_pu 2 rfl ?_
  refine S_v (r_build rfl (fun _ => bld25_0_1 _ _ _)) rfl ?_
  refine S_storeBN 0 rfl rfl rfl zr25 hL1 rfl rfl (onc rfl (onc rfl on0)) ?_
  intro w2 hL2 hle2
  refine S_seqnil ?_
  refine W_ret ?_
  refine At_got1 rfl (.cell rfl Try.underlying25 rfl zr25 (box_ptr (i := 0) hL2 rfl)) ?_
  exact ⟨hL2.ext, rfl⟩

set_option maxRecDepth 10000 in
theorem valid_ok (w : World) {a : Int} :
    Ok Try.prog 38 [.int .i64 a] w (fun v w' => Ext w w' ∧ v = .bool (decide (1 ≤ a ∧ a ≤ 10))) := by
  refine Ok_enter (n := 9) [(0, .int .i64 a)] Try.func38 rfl rfl rfl rfl rfl ?_
  have hL := Lcl.start w
  refine W_seqr ?_
  refine S_pu 1 rfl ?_
  refine S_seqnil ?_
  refine W_seqr ?_
  refine S_pu 3 rfl ?_
  refine S_and 2 2 rfl rfl rfl rfl rfl rfl ?_
  refine S_pu 1 rfl ?_
  refine S_seqnil ?_
  refine W_ret ?_
  refine At_body rfl rfl ?_
  exact ⟨hL.ext, rfl⟩

set_option maxRecDepth 10000 in
theorem add_ok (w : World) {a b : UInt8} :
    Ok Try.prog 50 [.int .u8 (a.toNat : Int), .int .u8 (b.toNat : Int)] w (fun v w' => Ext w w' ∧ v = .int .u8 ((a ^^^ b).toNat : Int)) := by
  refine Ok_enter (n := 8) [(0, .int .u8 (a.toNat : Int)), (1, .int .u8 (b.toNat : Int))] Try.func50 rfl rfl rfl rfl rfl ?_
  have hL := Lcl.start w
  refine W_seqr ?_
  refine S_pu 1 rfl ?_
  refine S_seqnil ?_
  refine W_seqr ?_
  refine S_pu 2 rfl ?_
  refine S_v (r_bit8 rfl rfl rfl) rfl ?_
  refine S_pu 1 rfl ?_
  refine S_seqnil ?_
  refine W_ret ?_
  refine At_body rfl rfl ?_
  exact ⟨hL.ext, rfl⟩

theorem mul_dec {n b : Nat} (hb : b < 2 ^ n) (h : 0 < b) : n - 1 < n := by
  cases n with
  | zero => simp at hb; omega
  | succ n => omega
theorem mul_round {w wr : World} {a c n x b s : Nat} (hL : Lcl w [] wr) (hx : x < 256) (hs : s < 256) (hb : b < 2 ^ n) (hb2 : b < 256) (hn : n ≤ 8) (hg : M.gmF n x b s = M.gmF 8 a c 0) (h : 0 < b) :
    Lcl w [] wr ∧ M.xt x < 256 ∧ (if b % 2 = 1 then s ^^^ x else s) < 256 ∧ b / 2 < 2 ^ (n - 1) ∧ b / 2 < 256 ∧ n - 1 ≤ 8 ∧ M.gmF (n - 1) (M.xt x) (b / 2) (if b % 2 = 1 then s ^^^ x else s) = M.gmF 8 a c 0 := by
  cases n with
  | zero => simp at hb; omega
  | succ n =>
    refine ⟨hL, M.xt_lt hx, ?_, ?_, by omega, by omega, ?_⟩
    · split
      · exact M.xor_lt hs hx
      · exact hs
    · rw [Nat.pow_succ] at hb; simp; omega
    · rw [← hg]
      show M.gmF n _ _ _ = _
      rw [M.gmF, if_neg (show ¬ b = 0 by omega)]
theorem u8_ext {a b : UInt8} (h : a = b) : Value.int .u8 (a.toNat : Int) = .int .u8 (b.toNat : Int) := by rw [h]
theorem and_one (b : Nat) : b &&& 1 = b % 2 := Nat.and_one_is_mod b

set_option maxRecDepth 10000 in
theorem mul_ok (w : World) {a c : UInt8} :
    Ok Try.prog 54 [.int .u8 (a.toNat : Int), .int .u8 (c.toNat : Int)] w (fun v w' => Ext w w' ∧ v = .int .u8 ((M.gmul a c).toNat : Int)) := by
  have ha := a.toNat_lt
  have hc := c.toNat_lt
  refine Ok_enter (n := 27) [(0, .int .u8 (a.toNat : Int)), (1, .int .u8 (c.toNat : Int))] Try.func54 rfl rfl rfl rfl rfl ?_
  have hL := Lcl.start w
  refine W_seqr ?_
  refine S_pu 1 rfl ?_
  refine S_seqnil ?_
  refine W_seqr ?_
  refine S_pu 1 rfl ?_
  refine S_v (r_conv Try.underlying5 Try.underlying3 rfl (conv_8_64 _)) rfl ?_
  refine S_pu 2 rfl ?_
  refine S_seqnil ?_
  refine W_seq ?_
  refine W_block ?_
  refine W_loop (σ := Nat × Nat × Nat × Nat) (fun (⟨n, x, b, s⟩ : Nat × Nat × Nat × Nat) => [(1, .int .u8 (b : Int)), (5, .int .i64 (x : Int)), (6, .int .i64 (s : Int)), (4, .int .u8 0)]) (fun (⟨n, x, b, s⟩ : Nat × Nat × Nat × Nat) wr => Lcl w [] wr ∧ x < 256 ∧ s < 256 ∧ b < 2 ^ n ∧ b < 256 ∧ n ≤ 8 ∧ M.gmF n x b s = M.gmF 8 a.toNat c.toNat 0) (fun (⟨n, x, b, s⟩ : Nat × Nat × Nat × Nat) => n) (8, a.toNat, c.toNat, 0) (.cons rfl (.cons rfl (.cons rfl (.cons rfl (Sub.nil _))))) ⟨hL, ha, by decide, hc, hc, by decide, rfl⟩ ?_
  rintro ⟨n, x, b, s⟩ wr1 ⟨hL1, hx, hs, hb, hb2, hn, hg⟩
  refine W_seq ?_
  refine W_seqr ?_
  refine S_pu 2 rfl ?_
  refine S_seqnil ?_
  refine W_if rfl (fun hc2 => ?_) (fun hc2 => ?_)
  · refine W_skip ?_
    refine At_seq ?_
    refine W_seq ?_
    refine W_block ?_
    refine W_seq ?_
    refine W_seqr ?_
    refine S_pu 1 rfl ?_
    refine S_v (r_bitN8 rfl rfl rfl rfl rfl (by omega) (by decide)) rfl ?_
    refine S_pu 1 rfl ?_
    refine S_seqnil ?_
    refine W_if rfl (fun hc3 => ?_) (fun hc3 => ?_)
    · refine W_region ?_
      refine S_pu 2 rfl ?_
      refine S_v (r_bit64 rfl rfl rfl rfl rfl (by omega) (by omega)) rfl ?_
      refine S_pu 1 rfl ?_
      refine S_nil ?_
      refine At_seq ?_
      refine W_seqr ?_
      refine S_pu 1 rfl ?_
      refine S_v (r_shl (c := 1) (m := 2) rfl rfl rfl (by decide) (wrap64 (by omega) (by omega))) rfl ?_
      refine S_pu 1 rfl ?_
      refine S_seqnil ?_
      refine W_seqr ?_
      refine S_pu 2 rfl ?_
      refine S_seqnil ?_
      refine W_if rfl (fun hc4 => ?_) (fun hc4 => ?_)
      · refine W_region ?_
        refine S_pu 1 rfl ?_
        refine S_v (r_bit64 rfl rfl (by omega : _ = ((2 * x : Nat) : Int)) rfl rfl (by omega) (by decide)) rfl ?_
        refine S_pu 1 rfl ?_
        refine S_nil ?_
        refine At_block ?_
        refine At_seq ?_
        refine W_region ?_
        refine S_pu 1 rfl ?_
        refine S_v (r_shr (c := 1) (m := 2) rfl rfl rfl (by decide)) rfl ?_
        refine S_pu 1 rfl ?_
        refine S_nil ?_
        refine At_round (n - 1, M.xt x, b / 2, if b % 2 = 1 then s ^^^ x else s) (.int rfl (by omega) (.int rfl (by first | (unfold M.xt; rw [if_pos (by omega)]) | (unfold M.xt; rw [if_neg (by omega)]; omega)) (.int rfl (by first | (rw [if_pos (by first | omega | (rw [and_one] at *; omega))]) | (rw [if_neg (by first | omega | (rw [and_one] at *; omega))])) (.cons rfl (Sub.nil _))))) (mul_round hL1 hx hs hb hb2 hn hg (by omega)) (mul_dec hb (by omega))
      · refine W_skip ?_
        refine At_block ?_
        refine At_seq ?_
        refine W_region ?_
        refine S_pu 1 rfl ?_
        refine S_v (r_shr (c := 1) (m := 2) rfl rfl rfl (by decide)) rfl ?_
        refine S_pu 1 rfl ?_
        refine S_nil ?_
        refine At_round (n - 1, M.xt x, b / 2, if b % 2 = 1 then s ^^^ x else s) (.int rfl (by omega) (.int rfl (by first | (unfold M.xt; rw [if_pos (by omega)]) | (unfold M.xt; rw [if_neg (by omega)]; omega)) (.int rfl (by first | (rw [if_pos (by first | omega | (rw [and_one] at *; omega))]) | (rw [if_neg (by first | omega | (rw [and_one] at *; omega))])) (.cons rfl (Sub.nil _))))) (mul_round hL1 hx hs hb hb2 hn hg (by omega)) (mul_dec hb (by omega))
    · refine W_skip ?_
      refine At_seq ?_
      refine W_seqr ?_
      refine S_pu 1 rfl ?_
      refine S_v (r_shl (c := 1) (m := 2) rfl rfl rfl (by decide) (wrap64 (by omega) (by omega))) rfl ?_
      refine S_pu 1 rfl ?_
      refine S_seqnil ?_
      refine W_seqr ?_
      refine S_pu 2 rfl ?_
      refine S_seqnil ?_
      refine W_if rfl (fun hc5 => ?_) (fun hc5 => ?_)
      · refine W_region ?_
        refine S_pu 1 rfl ?_
        refine S_v (r_bit64 rfl rfl (by omega : _ = ((2 * x : Nat) : Int)) rfl rfl (by omega) (by decide)) rfl ?_
        refine S_pu 1 rfl ?_
        refine S_nil ?_
        refine At_block ?_
        refine At_seq ?_
        refine W_region ?_
        refine S_pu 1 rfl ?_
        refine S_v (r_shr (c := 1) (m := 2) rfl rfl rfl (by decide)) rfl ?_
        refine S_pu 1 rfl ?_
        refine S_nil ?_
        refine At_round (n - 1, M.xt x, b / 2, if b % 2 = 1 then s ^^^ x else s) (.int rfl (by omega) (.int rfl (by first | (unfold M.xt; rw [if_pos (by omega)]) | (unfold M.xt; rw [if_neg (by omega)]; omega)) (.int rfl (by first | (rw [if_pos (by first | omega | (rw [and_one] at *; omega))]) | (rw [if_neg (by first | omega | (rw [and_one] at *; omega))])) (.cons rfl (Sub.nil _))))) (mul_round hL1 hx hs hb hb2 hn hg (by omega)) (mul_dec hb (by omega))
      · refine W_skip ?_
        refine At_block ?_
        refine At_seq ?_
        refine W_region ?_
        refine S_pu 1 rfl ?_
        refine S_v (r_shr (c := 1) (m := 2) rfl rfl rfl (by decide)) rfl ?_
        refine S_pu 1 rfl ?_
        refine S_nil ?_
        refine At_round (n - 1, M.xt x, b / 2, if b % 2 = 1 then s ^^^ x else s) (.int rfl (by omega) (.int rfl (by first | (unfold M.xt; rw [if_pos (by omega)]) | (unfold M.xt; rw [if_neg (by omega)]; omega)) (.int rfl (by first | (rw [if_pos (by first | omega | (rw [and_one] at *; omega))]) | (rw [if_neg (by first | omega | (rw [and_one] at *; omega))])) (.cons rfl (Sub.nil _))))) (mul_round hL1 hx hs hb hb2 hn hg (by omega)) (mul_dec hb (by omega))
  · refine W_exit ?_
    refine At_seq_exit ?_
    refine At_loop_exit ?_
    refine At_exit ?_
    refine At_seq ?_
    refine W_seqr ?_
    refine S_pu 1 rfl ?_
    refine S_v (r_conv Try.underlying3 Try.underlying5 rfl (conv_64_8 (by omega))) rfl ?_
    refine S_pu 1 rfl ?_
    refine S_seqnil ?_
    refine W_ret ?_
    refine At_body rfl rfl ?_
    exact ⟨hL1.ext, by obtain rfl : b = 0 := (by omega); rw [M.gmF_zero] at hg; exact u8_ext (by rw [show M.gmul a c = UInt8.ofNat s from by rw [M.gmul, ← hg]]; simp)⟩

set_option maxRecDepth 10000 in
theorem times_ok (w : World) {a c : UInt8} :
    Ok Try.prog 56 [.int .u8 (a.toNat : Int), .int .u8 (c.toNat : Int)] w (fun v w' => Ext w w' ∧ v = .int .u8 ((M.gmul a c).toNat : Int)) := by
  have ha := a.toNat_lt
  have hc := c.toNat_lt
  refine Ok_enter (n := 30) [(0, .int .u8 (a.toNat : Int)), (1, .int .u8 (c.toNat : Int))] Try.func56 rfl rfl rfl rfl rfl ?_
  have hL := Lcl.start w
  refine W_seqr ?_
  refine S_pu 1 rfl ?_
  refine S_seqnil ?_
  refine W_seqr ?_
  refine S_pu 1 rfl ?_
  refine S_v (r_conv Try.underlying5 Try.underlying3 rfl (conv_8_64 _)) rfl ?_
  refine S_pu 1 rfl ?_
  refine S_v (r_conv Try.underlying5 Try.underlying3 rfl (conv_8_64 _)) rfl ?_
  refine S_pu 2 rfl ?_
  refine S_seqnil ?_
  refine W_seqr ?_
  refine S_pu 1 rfl ?_
  refine S_seqnil ?_
  refine W_seq ?_
  refine W_block ?_
  refine W_loop (σ := Nat × Nat × Nat × Nat) (fun (⟨n, x, b, s⟩ : Nat × Nat × Nat × Nat) => [(6, .int .i64 (b : Int)), (5, .int .i64 (x : Int)), (7, .int .i64 (s : Int)), (4, .int .u8 0)]) (fun (⟨n, x, b, s⟩ : Nat × Nat × Nat × Nat) wr => Lcl w [] wr ∧ x < 256 ∧ s < 256 ∧ b < 2 ^ n ∧ b < 256 ∧ n ≤ 8 ∧ M.gmF n x b s = M.gmF 8 a.toNat c.toNat 0) (fun (⟨n, x, b, s⟩ : Nat × Nat × Nat × Nat) => n) (8, a.toNat, c.toNat, 0) (.cons rfl (.cons rfl (.cons rfl (.cons rfl (Sub.nil _))))) ⟨hL, ha, by decide, hc, hc, by decide, rfl⟩ ?_
  rintro ⟨n, x, b, s⟩ wr1 ⟨hL1, hx, hs, hb, hb2, hn, hg⟩
  refine W_seq ?_
  refine W_seqr ?_
  refine S_pu 2 rfl ?_
  refine S_seqnil ?_
  refine W_if rfl (fun hc2 => ?_) (fun hc2 => ?_)
  · refine W_skip ?_
    refine At_seq ?_
    refine W_block ?_
    refine W_seq ?_
    refine W_seqr ?_
    refine S_pu 1 rfl ?_
    refine S_v (r_rem rfl rfl (by omega)) rfl ?_
    refine S_pu 1 rfl ?_
    refine S_seqnil ?_
    refine W_if rfl (fun hc3 => ?_) (fun hc3 => ?_)
    · refine W_region ?_
      refine S_pu 2 rfl ?_
      refine S_v (r_bit64 rfl rfl rfl rfl rfl (by omega) (by omega)) rfl ?_
      refine S_pu 1 rfl ?_
      refine S_nil ?_
      refine At_seq ?_
      refine W_seqr ?_
      refine S_pu 1 rfl ?_
      refine S_v (r_ar64 rfl rfl rfl (by omega)) rfl ?_
      refine S_pu 1 rfl ?_
      refine S_seqnil ?_
      refine W_seq ?_
      refine W_seqr ?_
      refine S_pu 2 rfl ?_
      refine S_seqnil ?_
      refine W_if rfl (fun hc4 => ?_) (fun hc4 => ?_)
      · refine W_region ?_
        refine S_pu 1 rfl ?_
        refine S_v (r_bit64 rfl rfl (by omega : _ = ((2 * x : Nat) : Int)) rfl rfl (by omega) (by decide)) rfl ?_
        refine S_pu 1 rfl ?_
        refine S_nil ?_
        refine At_seq ?_
        refine W_region ?_
        refine S_pu 1 rfl ?_
        refine S_v (r_quo rfl rfl (by omega)) rfl ?_
        refine S_pu 1 rfl ?_
        refine S_nil ?_
        refine At_block ?_
        refine At_round (n - 1, M.xt x, b / 2, if b % 2 = 1 then s ^^^ x else s) (.int rfl (by omega) (.int rfl (by first | (unfold M.xt; rw [if_pos (by omega)]) | (unfold M.xt; rw [if_neg (by omega)]; omega)) (.int rfl (by first | (rw [if_pos (by first | omega | (rw [and_one] at *; omega))]) | (rw [if_neg (by first | omega | (rw [and_one] at *; omega))])) (.cons rfl (Sub.nil _))))) (mul_round hL1 hx hs hb hb2 hn hg (by omega)) (mul_dec hb (by omega))
      · refine W_skip ?_
        refine At_seq ?_
        refine W_region ?_
        refine S_pu 1 rfl ?_
        refine S_v (r_quo rfl rfl (by omega)) rfl ?_
        refine S_pu 1 rfl ?_
        refine S_nil ?_
        refine At_block ?_
        refine At_round (n - 1, M.xt x, b / 2, if b % 2 = 1 then s ^^^ x else s) (.int rfl (by omega) (.int rfl (by first | (unfold M.xt; rw [if_pos (by omega)]) | (unfold M.xt; rw [if_neg (by omega)]; omega)) (.int rfl (by first | (rw [if_pos (by first | omega | (rw [and_one] at *; omega))]) | (rw [if_neg (by first | omega | (rw [and_one] at *; omega))])) (.cons rfl (Sub.nil _))))) (mul_round hL1 hx hs hb hb2 hn hg (by omega)) (mul_dec hb (by omega))
    · refine W_skip ?_
      refine At_seq ?_
      refine W_seqr ?_
      refine S_pu 1 rfl ?_
      refine S_v (r_ar64 rfl rfl rfl (by omega)) rfl ?_
      refine S_pu 1 rfl ?_
      refine S_seqnil ?_
      refine W_seq ?_
      refine W_seqr ?_
      refine S_pu 2 rfl ?_
      refine S_seqnil ?_
      refine W_if rfl (fun hc5 => ?_) (fun hc5 => ?_)
      · refine W_region ?_
        refine S_pu 1 rfl ?_
        refine S_v (r_bit64 rfl rfl (by omega : _ = ((2 * x : Nat) : Int)) rfl rfl (by omega) (by decide)) rfl ?_
        refine S_pu 1 rfl ?_
        refine S_nil ?_
        refine At_seq ?_
        refine W_region ?_
        refine S_pu 1 rfl ?_
        refine S_v (r_quo rfl rfl (by omega)) rfl ?_
        refine S_pu 1 rfl ?_
        refine S_nil ?_
        refine At_block ?_
        refine At_round (n - 1, M.xt x, b / 2, if b % 2 = 1 then s ^^^ x else s) (.int rfl (by omega) (.int rfl (by first | (unfold M.xt; rw [if_pos (by omega)]) | (unfold M.xt; rw [if_neg (by omega)]; omega)) (.int rfl (by first | (rw [if_pos (by first | omega | (rw [and_one] at *; omega))]) | (rw [if_neg (by first | omega | (rw [and_one] at *; omega))])) (.cons rfl (Sub.nil _))))) (mul_round hL1 hx hs hb hb2 hn hg (by omega)) (mul_dec hb (by omega))
      · refine W_skip ?_
        refine At_seq ?_
        refine W_region ?_
        refine S_pu 1 rfl ?_
        refine S_v (r_quo rfl rfl (by omega)) rfl ?_
        refine S_pu 1 rfl ?_
        refine S_nil ?_
        refine At_block ?_
        refine At_round (n - 1, M.xt x, b / 2, if b % 2 = 1 then s ^^^ x else s) (.int rfl (by omega) (.int rfl (by first | (unfold M.xt; rw [if_pos (by omega)]) | (unfold M.xt; rw [if_neg (by omega)]; omega)) (.int rfl (by first | (rw [if_pos (by first | omega | (rw [and_one] at *; omega))]) | (rw [if_neg (by first | omega | (rw [and_one] at *; omega))])) (.cons rfl (Sub.nil _))))) (mul_round hL1 hx hs hb hb2 hn hg (by omega)) (mul_dec hb (by omega))
  · refine W_exit ?_
    refine At_seq_exit ?_
    refine At_loop_exit ?_
    refine At_exit ?_
    refine At_seq ?_
    refine W_seqr ?_
    refine S_pu 1 rfl ?_
    refine S_v (r_conv Try.underlying3 Try.underlying5 rfl (conv_64_8 (by omega))) rfl ?_
    refine S_pu 1 rfl ?_
    refine S_seqnil ?_
    refine W_ret ?_
    refine At_body rfl rfl ?_
    exact ⟨hL1.ext, by obtain rfl : b = 0 := (by omega); rw [M.gmF_zero] at hg; exact u8_ext (by rw [show M.gmul a c = UInt8.ofNat s from by rw [M.gmul, ← hg]]; simp)⟩

theorem pw_round {k n : Nat} {out a e : UInt8} {t : UInt8} (hb : n < 2 ^ k) (hg : M.pwF k out a n = t) (h : 0 < n) : n / 2 < 2 ^ (k - 1) ∧ M.pwF (k - 1) (if n % 2 = 1 then M.gmul out a else out) (M.gmul a a) (n / 2) = t := by
  cases k with
  | zero => simp at hb; omega
  | succ k =>
    refine ⟨?_, ?_⟩
    · rw [Nat.pow_succ] at hb; simp; omega
    · rw [← hg]
      show M.pwF k _ _ _ = _
      rw [M.pwF, if_neg (show ¬ n = 0 by omega)]

set_option maxRecDepth 10000 in
theorem power_ok (w : World) {a0 : UInt8} {m : Nat} (hm : m < 2 ^ 62) :
    Ok Try.prog 68 [.int .u8 (a0.toNat : Int), .int .i64 (m : Int)] w (fun v w' => Ext w w' ∧ v = .int .u8 ((M.gpow a0 m).toNat : Int)) := by
  refine Ok_enter (n := 20) [(0, .int .u8 (a0.toNat : Int)), (1, .int .i64 (m : Int))] Try.func68 rfl rfl rfl rfl rfl ?_
  have hL := Lcl.start w
  refine W_seqr ?_
  refine S_pu 1 rfl ?_
  refine S_seqnil ?_
  refine W_seqr ?_
  refine S_pu 1 rfl ?_
  refine S_seqnil ?_
  refine W_seq ?_
  refine W_block ?_
  refine W_loop (σ := Nat × UInt8 × UInt8 × Nat) (fun (⟨k, o, a, n⟩ : Nat × UInt8 × UInt8 × Nat) => [(0, .int .u8 (a.toNat : Int)), (1, .int .i64 (n : Int)), (5, .int .u8 (o.toNat : Int)), (4, .int .u8 0)]) (fun (⟨k, o, a, n⟩ : Nat × UInt8 × UInt8 × Nat) wr => Lcl w [] wr ∧ n < 2 ^ k ∧ n < 2 ^ 62 ∧ M.pwF k o a n = M.gpow a0 m) (fun (⟨k, o, a, n⟩ : Nat × UInt8 × UInt8 × Nat) => k) (64, 1, a0, m) (.cons rfl (.cons rfl (.cons rfl (.cons rfl (Sub.nil _))))) ⟨hL, by omega, hm, rfl⟩ ?_
  rintro ⟨k, o, a, n⟩ wr1 ⟨hL1, hb, hb2, hg⟩
  refine W_seq ?_
  refine W_seqr ?_
  refine S_pu 2 rfl ?_
  refine S_seqnil ?_
  refine W_if rfl (fun hc2 => ?_) (fun hc2 => ?_)
  · refine W_skip ?_
    refine At_seq ?_
    refine W_seq ?_
    refine W_block ?_
    refine W_seq ?_
    refine W_seqr ?_
    refine S_pu 1 rfl ?_
    refine S_v (r_bit64 rfl rfl rfl rfl rfl (by omega) (by decide)) rfl ?_
    refine S_pu 1 rfl ?_
    refine S_seqnil ?_
    refine W_if rfl (fun hc3 => ?_) (fun hc3 => ?_)
    · refine W_region ?_
      refine S_pu 2 rfl ?_
      refine S_callL rfl rfl hL1 (mul_ok _ ) ?_
      rintro _ w4 rfl hx4 hL4 hle4
      refine S_pu 1 rfl ?_
      refine S_nil ?_
      refine At_seq ?_
      refine W_region ?_
      refine S_pu 2 rfl ?_
      refine S_callL rfl rfl hL4 (mul_ok _ ) ?_
      rintro _ w5 rfl hx5 hL5 hle5
      refine S_pu 1 rfl ?_
      refine S_nil ?_
      refine At_block ?_
      refine At_seq ?_
      refine W_region ?_
      refine S_pu 1 rfl ?_
      refine S_v (r_shr (c := 1) (m := 2) rfl rfl rfl (by decide)) rfl ?_
      refine S_pu 1 rfl ?_
      refine S_nil ?_
      have hpr := pw_round (e := 0) hb hg (by omega)
      refine At_round (k - 1, if n % 2 = 1 then M.gmul o a else o, M.gmul a a, n / 2) (.cons rfl (.int rfl (by omega) (.cons' rfl (by first | (rw [if_pos (by rw [and_one] at *; omega)]) | (rw [if_neg (by rw [and_one] at *; omega)])) (.cons rfl (Sub.nil _))))) ⟨hL5, hpr.1, by omega, hpr.2⟩ (mul_dec hb (by omega))
    · refine W_skip ?_
      refine At_seq ?_
      refine W_region ?_
      refine S_pu 2 rfl ?_
      refine S_callL rfl rfl hL1 (mul_ok _ ) ?_
      rintro _ w6 rfl hx6 hL6 hle6
      refine S_pu 1 rfl ?_
      refine S_nil ?_
      refine At_block ?_
      refine At_seq ?_
      refine W_region ?_
      refine S_pu 1 rfl ?_
      refine S_v (r_shr (c := 1) (m := 2) rfl rfl rfl (by decide)) rfl ?_
      refine S_pu 1 rfl ?_
      refine S_nil ?_
      have hpr := pw_round (e := 0) hb hg (by omega)
      refine At_round (k - 1, if n % 2 = 1 then M.gmul o a else o, M.gmul a a, n / 2) (.cons rfl (.int rfl (by omega) (.cons' rfl (by first | (rw [if_pos (by rw [and_one] at *; omega)]) | (rw [if_neg (by rw [and_one] at *; omega)])) (.cons rfl (Sub.nil _))))) ⟨hL6, hpr.1, by omega, hpr.2⟩ (mul_dec hb (by omega))
  · refine W_exit ?_
    refine At_seq_exit ?_
    refine At_loop_exit ?_
    refine At_exit ?_
    refine At_seq ?_
    refine W_seqr ?_
    refine S_pu 2 rfl ?_
    refine S_seqnil ?_
    refine W_ret ?_
    refine At_body rfl rfl ?_
    exact ⟨hL1.ext, by obtain rfl : n = 0 := (by omega); rw [M.pwF_zero] at hg; rw [hg]⟩

set_option maxRecDepth 10000 in
theorem inverse_ok (w : World) {a : UInt8} :
    Ok Try.prog 64 [.int .u8 (a.toNat : Int)] w (fun v w' => Ext w w' ∧ v = .tuple #[.int .u8 ((M.ginv a).toNat : Int), .agg #[.int .i64 (if a = 0 then 26 else 0), .int .i64 (if a = 0 then -1 else 0)]]) := by
  refine Ok_enter (n := 10) [(0, .int .u8 (a.toNat : Int))] Try.func64 rfl rfl rfl rfl rfl ?_
  have hL := Lcl.start w
  refine W_seqr ?_
  refine S_pu 1 rfl ?_
  refine S_alloc zr25 rfl rfl hL ?_
  intro w1 b1 hL1 hle1 _
  refine S_seqnil ?_
  refine W_seq ?_
  refine W_seqr ?_
  refine S_pu 2 rfl ?_
  refine S_seqnil ?_
  refine W_if rfl (fun hc => ?_) (fun hc => ?_)
  · refine W_seqr ?_
    refine S_callL rfl rfl hL1 (gfault_ok _ ) ?_
    rintro _ w2 rfl hx2 hL2 hle2
    refine S_pu 1 rfl ?_
    refine S_storeBN 0 rfl rfl rfl zr25 hL2 rfl rfl (onc rfl (onc rfl on0)) ?_
    intro w3 hL3 hle3
    refine S_seqnil ?_
    refine W_ret ?_
    refine At_seq_ret ?_
    refine At_got2 rfl (.tmp rfl) (.cell rfl Try.underlying25 rfl zr25 (box_ptr (i := 0) hL3 rfl)) ?_
    obtain rfl : a = 0 := UInt8.toNat_inj.1 (by simpa using hc)
    exact ⟨hL3.ext, rfl⟩
  · refine W_skip ?_
    refine At_seq ?_
    refine W_seqr ?_
    refine S_pu 1 rfl ?_
    refine S_callL rfl rfl hL1 (power_ok _ (by decide)) ?_
    rintro _ w4 rfl hx4 hL4 hle4
    refine S_v (r_build rfl (fun _ => bld25_z _)) rfl ?_
    refine S_pu 1 rfl ?_
    refine S_storeBN 0 rfl rfl rfl zr25 hL4 rfl rfl (onc rfl (onc rfl on0)) ?_
    intro w5 hL5 hle5
    refine S_seqnil ?_
    refine W_ret ?_
    refine At_got2 rfl (.tmp rfl) (.cell rfl Try.underlying25 rfl zr25 (box_ptr (i := 0) hL5 rfl)) ?_
    exact ⟨hL5.ext, by rw [if_neg (fun h => hc (by subst h; rfl)), if_neg (fun h => hc (by subst h; rfl))]; rfl⟩

set_option maxRecDepth 10000 in
theorem div_ok (w : World) {a b : UInt8} :
    Ok Try.prog 65 [.int .u8 (a.toNat : Int), .int .u8 (b.toNat : Int)] w (fun v w' => Ext w w' ∧ v = .tuple #[.int .u8 ((M.gdiv a b).toNat : Int), .agg #[.int .i64 (if b = 0 then 26 else 0), .int .i64 (if b = 0 then -2 else 0)]]) := by
  refine Ok_enter (n := 14) [(0, .int .u8 (a.toNat : Int)), (1, .int .u8 (b.toNat : Int))] Try.func65 rfl rfl rfl rfl rfl ?_
  have hL := Lcl.start w
  refine W_seqr ?_
  refine S_pu 1 rfl ?_
  refine S_alloc zr25 rfl rfl hL ?_
  intro w1 b1 hL1 hle1 _
  refine S_seqnil ?_
  refine W_seq ?_
  refine W_seqr ?_
  refine S_pu 2 rfl ?_
  refine S_seqnil ?_
  refine W_if rfl (fun hc => ?_) (fun hc => ?_)
  · refine W_seqr ?_
    refine S_callL rfl rfl hL1 (gfault_ok _ ) ?_
    rintro _ w2 rfl hx2 hL2 hle2
    refine S_pu 1 rfl ?_
    refine S_storeBN 0 rfl rfl rfl zr25 hL2 rfl rfl (onc rfl (onc rfl on0)) ?_
    intro w3 hL3 hle3
    refine S_seqnil ?_
    refine W_ret ?_
    refine At_seq_ret ?_
    refine At_got2 rfl (.tmp rfl) (.cell rfl Try.underlying25 rfl zr25 (box_ptr (i := 0) hL3 rfl)) ?_
    obtain rfl : b = 0 := UInt8.toNat_inj.1 (by simpa using hc)
    exact ⟨hL3.ext, by rw [M.gdiv_zero]; rfl⟩
  · refine W_skip ?_
    refine At_seq ?_
    refine W_seqr ?_
    refine S_pu 2 rfl ?_
    refine S_callL rfl rfl hL1 (power_ok _ (by decide)) ?_
    rintro _ w4 rfl hx4 hL4 hle4
    refine S_callL rfl rfl hL4 (mul_ok _ ) ?_
    rintro _ w5 rfl hx5 hL5 hle5
    refine S_v (r_build rfl (fun _ => bld25_z _)) rfl ?_
    refine S_pu 1 rfl ?_
    refine S_storeBN 0 rfl rfl rfl zr25 hL5 rfl rfl (onc rfl (onc rfl on0)) ?_
    intro w6 hL6 hle6
    refine S_seqnil ?_
    refine W_ret ?_
    refine At_got2 rfl (.tmp rfl) (.cell rfl Try.underlying25 rfl zr25 (box_ptr (i := 0) hL6 rfl)) ?_
    exact ⟨hL6.ext, by rw [if_neg (fun h => hc (by subst h; rfl)), if_neg (fun h => hc (by subst h; rfl))]; rfl⟩

theorem quo_hit {a b t : UInt8} {n : Nat} (hg : M.quoF a b (256 - n) n = t) (hn : n < 256) (h : M.gmul (UInt8.ofNat n) b = a) : UInt8.ofNat n = t := by
  rw [show 256 - n = (255 - n) + 1 by omega, M.quoF, if_pos h] at hg; exact hg
theorem quo_round {a b t : UInt8} {n : Nat} (hg : M.quoF a b (256 - n) n = t) (hn : n < 256) (h : ¬ M.gmul (UInt8.ofNat n) b = a) : M.quoF a b (256 - (n + 1)) (n + 1) = t := by
  rw [show 256 - n = (256 - (n + 1)) + 1 by omega, M.quoF, if_neg h] at hg; exact hg

set_option maxRecDepth 10000 in
theorem quo_ok (w : World) {a b : UInt8} :
    Ok Try.prog 58 [.int .u8 (a.toNat : Int), .int .u8 (b.toNat : Int)] w (fun v w' => Ext w w' ∧ v = .int .u8 ((M.gquo a b).toNat : Int)) := by
  refine Ok_enter (n := 18) [(0, .int .u8 (a.toNat : Int)), (1, .int .u8 (b.toNat : Int))] Try.func58 rfl rfl rfl rfl rfl ?_
  have hL := Lcl.start w
  refine W_seqr ?_
  refine S_pu 1 rfl ?_
  refine S_seqnil ?_
  refine W_seq ?_
  refine W_seqr ?_
  refine S_pu 1 rfl ?_
  refine S_seqnil ?_
  refine W_block ?_
  refine W_loop (σ := Nat) (fun n => [(0, .int .u8 (a.toNat : Int)), (1, .int .u8 (b.toNat : Int)), (5, .int .i64 (n : Int))]) (fun n wr => Lcl w [] wr ∧ n ≤ 256 ∧ M.quoF a b (256 - n) n = M.gquo a b) (fun n => 256 - n) 0 (.cons rfl (.cons rfl (.cons rfl (Sub.nil _)))) ⟨hL, by decide, rfl⟩ ?_
  rintro n wr1 ⟨hL1, hn, hg⟩
  refine W_seq ?_
  refine W_seqr ?_
  refine S_pu 2 rfl ?_
  refine S_seqnil ?_
  refine W_if rfl (fun hc2 => ?_) (fun hc2 => ?_)
  · refine W_skip ?_
    refine At_seq ?_
    refine W_seq ?_
    refine W_block ?_
    refine W_seqr ?_
    refine S_pu 1 rfl ?_
    refine S_v (r_conv Try.underlying3 Try.underlying5 rfl (conv_64_8 (by omega))) rfl ?_
    refine S_pu 1 rfl ?_
    refine S_callL rfl rfl hL1 (times_ok _ ) ?_
    rintro _ w3 rfl hx3 hL3 hle3
    refine S_pu 2 rfl ?_
    refine S_seqnil ?_
    refine W_if rfl (fun hc => ?_) (fun hc => ?_)
    · refine W_seqr ?_
      refine S_pu 1 rfl ?_
      refine S_v (r_conv Try.underlying3 Try.underlying5 rfl (conv_64_8 (by omega))) rfl ?_
      refine S_pu 1 rfl ?_
      refine S_seqnil ?_
      refine W_ret ?_
      refine At_block_ret ?_
      refine At_seq_ret ?_
      refine At_loop_ret ?_
      refine At_block_ret ?_
      refine At_seq_ret ?_
      refine At_body rfl rfl ?_
      exact ⟨hL3.ext, u8_ext (by rw [← quo_hit hg (by omega) (UInt8.toNat_inj.1 (by have h := hc; simp only [Int.toNat_natCast] at h; omega))]; simp)⟩
    · refine W_skip ?_
      refine At_block ?_
      refine At_seq ?_
      refine W_region ?_
      refine S_pu 1 rfl ?_
      refine S_v (r_ar64 rfl rfl rfl (by omega)) rfl ?_
      refine S_pu 1 rfl ?_
      refine S_nil ?_
      have hq := quo_round hg (by omega) (fun h => hc (by rw [← h]; simp))
      refine At_round (n + 1) (.cons rfl (.cons rfl (.int rfl (by omega) (Sub.nil _)))) ⟨hL3, by omega, hq⟩ (by omega)
  · refine W_exit ?_
    refine At_seq_exit ?_
    refine At_loop_exit ?_
    refine At_exit ?_
    refine At_seq ?_
    refine W_seqr ?_
    refine S_pu 1 rfl ?_
    refine S_seqnil ?_
    refine W_ret ?_
    refine At_body rfl rfl ?_
    exact ⟨hL1.ext, by obtain rfl : n = 256 := (by omega); rw [← hg]; rfl⟩
end Go.Proofs.Ytidedcbaahiplaa
