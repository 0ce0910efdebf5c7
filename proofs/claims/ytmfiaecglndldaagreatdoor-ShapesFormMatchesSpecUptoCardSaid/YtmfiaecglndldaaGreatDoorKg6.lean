/- Texts of a claim, merged. -/
import Derived.Test.YtmfiaecglndldaaGreatDoorKg5
import Derived.KernelRfl
set_option linter.unusedVariables false
set_option linter.unusedSimpArgs false
section
namespace Go.L
structure NodeOk (v : Pv) : Prop where
  kind : v.f.1 = 1 ∨ v.f.1 = 2 ∨ v.f.1 = 3 ∨ v.f.1 = 4
  num : v.f.1 = 1 ∨ v.f.2.1 = 0
  bytes : v.f.1 = 2 ∨ v.f.2.2.1 = []
  names : v.f.1 = 4 ∨ v.f.2.2.2.1 = []
  parts : v.f.1 = 3 ∨ v.f.1 = 4 ∨ v.f.2.2.2.2 = []
  same : v.f.1 = 4 → v.f.2.2.2.1.length = v.f.2.2.2.2.length
  many : v.f.2.2.2.2.length ≤ 600
  nok : ∀ x ∈ v.f.2.2.2.1, nok x = true
  nd : v.f.2.2.2.1.Nodup
/-- Valid, of at most so many levels. -/
def Vd : Nat → Pv → Prop
  | 0, _ => False
  | d + 1, v => NodeOk v ∧ ∀ p ∈ v.f.2.2.2.2, Vd d p
/-- Nothing in it is greater than that. -/
def Sm (B : Nat) : Nat → Pv → Prop
  | 0, _ => True
  | d + 1, v => v.f.2.2.1.length ≤ B ∧ v.f.2.2.2.1.length ≤ B ∧ v.f.2.2.2.2.length ≤ B ∧ (∀ x ∈ v.f.2.2.2.1, x.length ≤ B) ∧ I64 v.f.1 ∧ I64 v.f.2.1 ∧ ∀ p ∈ v.f.2.2.2.2, Sm B d p
/-- The nodes of some levels. -/
def nodes : Nat → Pv → Nat
  | 0, _ => 0
  | d + 1, v => 1 + (v.f.2.2.2.2.map (nodes d)).sum
end Go.L
namespace Go.Proofs.YtmfiaecglndldaaGreatDoor
open Go Go.L
theorem cont_int {l : List Int} (hl : l.length ≤ 1000) (a : Int) : slices_Contains_int_int l a = some (decide (a ∈ l)) := by
  have key : ∀ (d i : Nat), i + d = l.length → ∃ r, Go.L.run (slices_Index_int_int_bl2 l a) (i : Int) = some r ∧ (0 ≤ r ↔ a ∈ l.drop i) := by
    intro d
    induction d with
    | zero =>
      intro i hi;refine ⟨-1, run_inr (m := some (-1)) ?_, by rw [List.drop_eq_nil_of_le (by omega)]; simp⟩;unfold slices_Index_int_int_bl2 slices_Index_int_int_k1;rw [if_neg (by omega)]
    | succ d ih =>
      intro i hi;have hil : i < l.length := by omega
      rw [drop_cons hil]
      have hb : slices_Index_int_int_bl2 l a (i : Int) = if a = l.getD i default then some (.inr (i : Int)) else some (.inl ((i + 1 : Nat) : Int)) := by
        unfold slices_Index_int_int_bl2;rw [if_pos (by omega), chk_pos (by omega), Int.toNat_natCast, chk_pos (by unfold I64; omega)]
        rfl
      by_cases h : a = l.getD i default
      · rw [if_pos h] at hb;exact ⟨_, run_inr (m := some (i : Int)) hb, by rw [h]; simp⟩
      · rw [if_neg h] at hb;obtain ⟨r, h1, h2⟩ := ih (i + 1) (by omega);refine ⟨r, by rw [run_inl hb, h1], h2.trans ?_⟩;rw [List.mem_cons];exact ⟨.inr, fun hh => hh.resolve_left h⟩
  unfold slices_Contains_int_int slices_Index_int_int slices_Index_int_int_l2;obtain ⟨r, h1, h2⟩ := key l.length 0 (by omega);rw [show ((0 : Int)) = ((0 : Nat) : Int) from rfl, h1, Option.bind_some];rw [List.drop_zero] at h2
  congr 1
  rw [Bool.eq_iff_iff, decide_eq_true_eq, decide_eq_true_eq];exact h2
theorem cont_str {l : List (List UInt8)} (hl : l.length ≤ 1000000000000) (a : List UInt8) : slices_Contains_string_string l a = some (decide (a ∈ l)) := by
  have key : ∀ (d i : Nat), i + d = l.length → ∃ r, Go.L.run (slices_Index_string_string_bl2 l a) (i : Int) = some r ∧ (0 ≤ r ↔ a ∈ l.drop i) := by
    intro d
    induction d with
    | zero =>
      intro i hi;refine ⟨-1, run_inr (m := some (-1)) ?_, by rw [List.drop_eq_nil_of_le (by omega)]; simp⟩;unfold slices_Index_string_string_bl2 slices_Index_string_string_k1;rw [if_neg (by omega)]
    | succ d ih =>
      intro i hi;have hil : i < l.length := by omega
      rw [drop_cons hil]
      have hb : slices_Index_string_string_bl2 l a (i : Int) = if a = l.getD i default then some (.inr (i : Int)) else some (.inl ((i + 1 : Nat) : Int)) := by
        unfold slices_Index_string_string_bl2;rw [if_pos (by omega), chk_pos (by omega), Int.toNat_natCast, chk_pos (by unfold I64; omega)]
        rfl
      by_cases h : a = l.getD i default
      · rw [if_pos h] at hb;exact ⟨_, run_inr (m := some (i : Int)) hb, by rw [h]; simp⟩
      · rw [if_neg h] at hb;obtain ⟨r, h1, h2⟩ := ih (i + 1) (by omega);refine ⟨r, by rw [run_inl hb, h1], h2.trans ?_⟩;rw [List.mem_cons];exact ⟨.inr, fun hh => hh.resolve_left h⟩
  unfold slices_Contains_string_string slices_Index_string_string slices_Index_string_string_l2;obtain ⟨r, h1, h2⟩ := key l.length 0 (by omega);rw [show ((0 : Int)) = ((0 : Nat) : Int) from rfl, h1, Option.bind_some];rw [List.drop_zero] at h2
  congr 1
  rw [Bool.eq_iff_iff, decide_eq_true_eq, decide_eq_true_eq];exact h2
theorem cn2_eq {l : List (List UInt8)} (hl : l.length ≤ 1000000000000) : conf_checkNode_2 l = some (l.any fun x => !nok x) := by
  have key : ∀ (d i : Nat), i + d = l.length → ∃ r, Go.L.run (idxf_checkNode_2_bl2 l) (i : Int) = some r ∧ (0 ≤ r ↔ (l.drop i).any (fun x => !nok x) = true) := by
    intro d
    induction d with
    | zero =>
      intro i hi;refine ⟨-1, run_inr (m := some (-1)) ?_, by rw [List.drop_eq_nil_of_le (by omega)]; simp⟩;unfold idxf_checkNode_2_bl2 idxf_checkNode_2_k1;rw [if_neg (by omega)]
    | succ d ih =>
      intro i hi;have hil : i < l.length := by omega
      rw [drop_cons hil]
      have hb : idxf_checkNode_2_bl2 l (i : Int) = if (!nok (l.getD i default)) = true then some (.inr (i : Int)) else some (.inl ((i + 1 : Nat) : Int)) := by
        unfold idxf_checkNode_2_bl2 value_checkNode_2;rw [if_pos (by omega), chk_pos (by omega), Int.toNat_natCast, name_eq, chk_pos (by unfold I64; omega)]
        rfl
      by_cases h : (!nok (l.getD i default)) = true
      · rw [if_pos h] at hb;exact ⟨_, run_inr (m := some (i : Int)) hb, by rw [List.any_cons, h]; simp⟩
      · rw [if_neg h] at hb;obtain ⟨r, h1, h2⟩ := ih (i + 1) (by omega);refine ⟨r, by rw [run_inl hb, h1], h2.trans ?_⟩;have hf : (!nok (l.getD i default)) = false := by simpa using h
        rw [List.any_cons, hf, Bool.false_or]
  unfold conf_checkNode_2 idxf_checkNode_2 idxf_checkNode_2_l2;obtain ⟨r, h1, h2⟩ := key l.length 0 (by omega);rw [show ((0 : Int)) = ((0 : Nat) : Int) from rfl, h1, Option.bind_some];rw [List.drop_zero] at h2
  congr 1
  rw [Bool.eq_iff_iff, decide_eq_true_eq];exact h2
theorem dup_run {l : List (List UInt8)} (hl : l.length ≤ 1000000000000) : ∀ (d i : Nat), i + d = l.length → (l.take i).Nodup → ∃ c, Go.L.run (value_checkNode_bl3 l) (i : Int) = some c ∧ (c = 0 → l.Nodup)
  | 0, i, hi, hn => by
    refine ⟨0, run_inr (m := some 0) ?_, fun _ => ?_⟩
    · unfold value_checkNode_bl3 value_checkNode_k2;rw [if_neg (by omega)]
    · rwa [List.take_of_length_le (by omega)] at hn
  | d + 1, i, hi, hn => by
    have hil : i < l.length := by omega
    have hb : value_checkNode_bl3 l (i : Int) = if l.getD i default ∈ l.take i then some (.inr 8) else some (.inl ((i + 1 : Nat) : Int)) := by
      unfold value_checkNode_bl3;rw [if_pos (by omega), chk_pos (by omega), chk_pos (by omega), Int.toNat_natCast, cont_str (by rw [List.length_take]; omega), Option.bind_some, chk_pos (by unfold I64; omega)]
      by_cases h : l.getD i default ∈ l.take i <;> simp [h]
    by_cases h : l.getD i default ∈ l.take i
    · rw [if_pos h] at hb;exact ⟨8, run_inr (m := some 8) hb, fun hc => by cases hc⟩
    · rw [if_neg h] at hb
      obtain ⟨c, h1, h2⟩ := dup_run hl d (i + 1) (by omega) (by
        rw [List.take_add_one, List.getElem?_eq_getElem hil];have e : l[i] = l.getD i default := by rw [List.getD_eq_getElem?_getD, List.getElem?_eq_getElem hil]; rfl
        rw [e];exact List.nodup_append.2 ⟨hn, List.pairwise_singleton _ _, fun a ha b hb e => by rw [Option.toList_some, List.mem_singleton] at hb; subst hb; subst e; exact h ha⟩)
      exact ⟨c, by rw [run_inl hb, h1], h2⟩
theorem cn_k1 (a b : Int) (c : List UInt8) {ns : List (List UInt8)} (hn : ns.length ≤ 1000000000000) (ps : List Pv) (fl : Bool) : ∃ r, value_checkNode_k1 a b c ns ps fl = some r ∧ (r = 0 → fl = false ∧ ps.length ≤ 600 ∧ (∀ x ∈ ns, nok x = true) ∧ ns.Nodup) := by
  unfold value_checkNode_k1
  cases fl with
  | true => exact ⟨6, rfl, fun h => by cases h⟩
  | false =>
    rw [if_neg (by decide)]
    by_cases h1 : (600 : Int) < (ps.length : Int)
    · rw [if_pos h1]; exact ⟨14, rfl, fun h => by cases h⟩
    · rw [if_neg h1, cn2_eq hn, Option.bind_some]
      by_cases h2 : (ns.any fun x => !nok x) = true
      · rw [if_pos h2]; exact ⟨7, rfl, fun h => by cases h⟩
      · rw [if_neg h2];obtain ⟨r, h3, h4⟩ := dup_run hn ns.length 0 (by omega) (by simp);refine ⟨r, h3, fun h => ⟨rfl, by omega, fun x hx => ?_, h4 h⟩⟩
        cases hk : nok x with
        | true => rfl
        | false => exact absurd (List.any_eq_true.2 ⟨x, hx, by simp [hk]⟩) h2
theorem vc1 {l : List Int} (hl : l.length ≤ 1000) (v : Pv) : value_checkNode_1 l v = some (decide (v.f.1 ∈ l), v) := by
  unfold value_checkNode_1;rw [cont_int hl]
  rfl
set_option maxHeartbeats 4000000 in
theorem checkNode_ex (v : Pv) (hn : v.f.2.2.2.1.length ≤ 1000000000000) : ∃ c, value_checkNode v = some c ∧ (c = 0 → NodeOk v) := by
  have fin : ∀ fl : Bool, (fl = false → (v.f.1 = 1 ∨ v.f.1 = 2 ∨ v.f.1 = 3 ∨ v.f.1 = 4) ∧ (v.f.1 = 1 ∨ v.f.2.1 = 0) ∧ (v.f.1 = 2 ∨ v.f.2.2.1 = []) ∧ (v.f.1 = 4 ∨ v.f.2.2.2.1 = []) ∧ (v.f.1 = 3 ∨ v.f.1 = 4 ∨ v.f.2.2.2.2 = []) ∧ (v.f.1 = 4 → v.f.2.2.2.1.length = v.f.2.2.2.2.length)) →
      ∃ c, value_checkNode_k1 v.f.1 v.f.2.1 v.f.2.2.1 v.f.2.2.2.1 v.f.2.2.2.2 fl = some c ∧ (c = 0 → NodeOk v) := by
    intro fl hfl;obtain ⟨r, h1, h2⟩ := cn_k1 v.f.1 v.f.2.1 v.f.2.2.1 hn v.f.2.2.2.2 fl;refine ⟨r, h1, fun hr => ?_⟩;obtain ⟨k1, k2, k3, k4⟩ := h2 hr;obtain ⟨g1, g2, g3, g4, g5, g6⟩ := hfl k1;exact ⟨g1, g2, g3, g4, g5, g6, k2, k3, k4⟩
  have e0 := vc1 (l := [1, 2, 3, 4]) (by decide) v;have e1 := vc1 (l := [1]) (by decide) v;have e2 := vc1 (l := [2]) (by decide) v;have e3 := vc1 (l := [3, 4]) (by decide) v;have e4 := vc1 (l := [4]) (by decide) v
  by_cases hk : v.f.1 = 1 ∨ v.f.1 = 2 ∨ v.f.1 = 3 ∨ v.f.1 = 4
  · unfold value_checkNode;simp only [e0, e1, e2, e3, e4, Option.bind_some];generalize v.f.1 = k at *;generalize v.f.2.1 = n at *;generalize v.f.2.2.1 = b at *;generalize v.f.2.2.2.1 = ns at *;generalize v.f.2.2.2.2 = ps at *
    have hb : b = [] ∨ (0 : Int) < (b.length : Int) := by cases b with
      | nil => exact .inl rfl
      | cons _ _ => exact .inr (by simp only [List.length_cons]; omega)
    have hm : ns = [] ∨ (0 : Int) < (ns.length : Int) := by cases ns with
      | nil => exact .inl rfl
      | cons _ _ => exact .inr (by simp only [List.length_cons]; omega)
    have hp : ps = [] ∨ (0 : Int) < (ps.length : Int) := by cases ps with
      | nil => exact .inl rfl
      | cons _ _ => exact .inr (by simp only [List.length_cons]; omega)
    rcases hk with rfl | rfl | rfl | rfl <;> by_cases hz : n = 0 <;> rcases hb with rfl | hb <;> rcases hm with rfl | hm <;> rcases hp with rfl | hp <;>
      simp +decide only [*, if_true, if_false, List.length_nil, Bool.not_true, Bool.not_false, Bool.false_eq_true, decide_true, decide_false, Int.lt_irrefl, Int.natCast_zero] <;>
      (refine fin _ fun hfl => ?_) <;> simp_all <;> omega
  · refine ⟨5, ?_, fun h => by cases h⟩;unfold value_checkNode;rw [e0, Option.bind_some];rw [if_pos (by simp [hk])]
end Go.Proofs.YtmfiaecglndldaaGreatDoor
end
section
namespace Go.L
/-- A number with its sign again. -/
def unzz (u : Nat) : Int := if u % 2 = 0 then ((u / 2 : Nat) : Int) else -((u / 2 : Nat) : Int) - 1
theorem unzz_zz (a : Int) : unzz (zz a) = a := by unfold zz unzz; split <;> split <;> omega
def nu (u i : Nat) (c : UInt8) : Nat := u ||| ((c &&& 127).toNat * 2 ^ (7 * i) % 18446744073709551616)
theorem nu_lt {u i : Nat} {c : UInt8} (h : u < 2 ^ 64) : nu u i c < 2 ^ 64 := Nat.or_lt_two_pow h (by have := Nat.mod_lt ((c &&& 127).toNat * 2 ^ (7 * i)) (show 0 < 18446744073709551616 by decide); omega)
theorem xorI_sign {k : Nat} (h : k < 2 ^ 63) : xorI (k : Int) 0 = k ∧ xorI (k : Int) (-1) = -(k : Int) - 1 := by
  have e : (BitVec.ofInt 64 (k : Int)).toNat = k := by simp; omega
  have wp : ∀ x : Nat, x < 2 ^ 63 → Go.IntKind.i64.wrap (x : Int) = x := fun x hx => by
    simp only [Go.IntKind.wrap]; simp [Go.IntKind.bits, Go.IntKind.signed]; omega
  have wn : ∀ x : Nat, 2 ^ 63 ≤ x → x < 2 ^ 64 → Go.IntKind.i64.wrap (x : Int) = (x : Int) - 18446744073709551616 := fun x hx hx2 => by
    simp only [Go.IntKind.wrap]; simp [Go.IntKind.bits, Go.IntKind.signed]; omega
  constructor
  · unfold xorI;rw [BitVec.toNat_xor, e];rw [show (BitVec.ofInt 64 0).toNat = 0 from rfl, Nat.xor_zero];exact wp k h
  · unfold xorI;rw [show BitVec.ofInt 64 (-1) = BitVec.allOnes 64 from rfl, BitVec.xor_allOnes, BitVec.toNat_not, e, wn _ (by omega) (by omega)];omega
theorem wrap64_lt {k : Nat} (h : k < 2 ^ 63) : Go.IntKind.i64.wrap (k : Int) = k := by
  simp only [Go.IntKind.wrap]; simp [Go.IntKind.bits, Go.IntKind.signed]; omega
end Go.L
namespace Go.Proofs.YtmfiaecglndldaaGreatDoor
open Go Go.L
theorem rn_step {b : List UInt8} (hb : b.length ≤ 1000000) {a u i : Nat} (hi : i < 10) (hu : u < 2 ^ 64) (ha : a + i < b.length) :
    wire_ReadNumber_bl2 b (a : Int) ((u : Int), (i : Int)) = if (i = 9 ∧ 1 < (b.getD (a + i) default).toNat) ∨ (0 < i ∧ (b.getD (a + i) default).toNat = 0) then some (.inr (0, 0, (1, (a : Int))))
      else if (b.getD (a + i) default).toNat < 128 then some (.inr (unzz (nu u i (b.getD (a + i) default)), ((a + i + 1 : Nat) : Int), (0, 0)))
      else some (.inl ((nu u i (b.getD (a + i) default) : Nat), ((i + 1 : Nat) : Int))) := by
  unfold wire_ReadNumber_bl2 wire_ReadNumber_k1 wire_fault;dsimp only;have e1 : ((a : Int) + (i : Int)).toNat = a + i := by omega
  have e2 : ((7 : Int) * (i : Int)).toNat = 7 * i := by omega
  simp only [e1, e2];generalize b.getD (a + i) default = c
  have hE : IntKind.u64.wrap (IntKind.u64.wrap ((c &&& 127).toNat : Int) * 2 ^ (7 * i)) = (((c &&& 127).toNat * 2 ^ (7 * i) % 18446744073709551616 : Nat) : Int) := by
    rw [wrap_u, wrap_u, show ((c &&& 127).toNat : Int) % 18446744073709551616 = ((c &&& 127).toNat : Int) by have := (c &&& 127).toNat_lt; omega];rw [Int.natCast_emod, Int.natCast_mul, Int.natCast_pow]
    rfl
  simp only [hE, Int.toNat_natCast];have hM : (c &&& 127).toNat * 2 ^ (7 * i) % 18446744073709551616 < 18446744073709551616 := Nat.mod_lt _ (by decide);have hn : (u ||| (c &&& 127).toNat * 2 ^ (7 * i) % 18446744073709551616) = nu u i c := rfl;simp only [hn];have hnl := nu_lt (i := i) (c := c) hu;generalize nu u i c = v at *;generalize (c &&& 127).toNat * 2 ^ (7 * i) % 18446744073709551616 = M at *;have k1 : I64 ((a : Int) + (i : Int)) := by unfold I64; omega
  have k2 : 0 ≤ (a : Int) + (i : Int) ∧ (a : Int) + (i : Int) < (b.length : Int) := by omega
  have k3 : I64 (7 * (i : Int)) := by unfold I64; omega
  have k4 : 0 ≤ 7 * (i : Int) ∧ 7 * (i : Int) ≤ 63 := by omega
  have k5 : ((0 : Int) ≤ (u : Int) ∧ (u : Int) < 2 ^ 64) ∧ (0 : Int) ≤ (M : Int) ∧ (M : Int) < 2 ^ 64 := by omega
  have k6 : ((0 : Int) ≤ (v : Int) ∧ (v : Int) < 2 ^ 64) ∧ (0 : Int) ≤ (1 : Int) ∧ (1 : Int) < 2 ^ 64 := by omega
  have h1 : v &&& (1 : Int).toNat = v % 2 := Nat.and_one_is_mod v;have h2 : IntKind.i64.wrap ((v % 2 : Nat) : Int) = ((v % 2 : Nat) : Int) := wrap64_lt (by omega);have h3 : (v : Int) / 2 = ((v / 2 : Nat) : Int) := by omega
  have h4 : IntKind.i64.wrap ((v / 2 : Nat) : Int) = ((v / 2 : Nat) : Int) := wrap64_lt (by omega);have k7 : I64 (-((v % 2 : Nat) : Int)) := by unfold I64; omega
  have k8 : I64 ((a : Int) + (i : Int) + 1) := by unfold I64; omega
  have k9 : I64 ((i : Int) + 1) := by unfold I64; omega
  have hx : xorI ((v / 2 : Nat) : Int) (-((v % 2 : Nat) : Int)) = unzz v := by
    have := xorI_sign (k := v / 2) (by omega);unfold unzz
    rcases Nat.mod_two_eq_zero_or_one v with h | h
    · rw [h, if_pos rfl]; exact this.1
    · rw [h, if_neg (by decide)]; exact this.2
  simp only [chk_pos k1, chk_pos k2, chk_pos k3, chk_pos k4, chk_pos k5, chk_pos k6, chk_pos k8, chk_pos k9, h1, h2, h3, h4, hx];simp only [chk_pos k7, Option.bind_some];rw [if_pos (by omega), if_neg (by omega)]
  by_cases c1 : i = 9 ∧ 1 < c.toNat
  · rw [if_pos (by omega), if_pos (.inl c1)]; rfl
  · rw [if_neg (by omega)]
    by_cases c2 : 0 < i
    · rw [if_pos (by omega)]
      by_cases c3 : c.toNat = 0
      · rw [if_pos (by omega), if_pos (.inr ⟨c2, c3⟩)]; rfl
      · rw [if_neg (show ¬ ((c.toNat : Int) = 0) by omega), if_neg (show ¬ ((i = 9 ∧ 1 < c.toNat) ∨ 0 < i ∧ c.toNat = 0) by omega)]
        by_cases c4 : c.toNat < 128
        · rw [if_pos (by omega), if_pos c4]; rfl
        · rw [if_neg (by omega), if_neg c4]; rfl
    · rw [if_neg (show ¬ ((0 : Int) < (i : Int)) by omega), if_neg (show ¬ ((i = 9 ∧ 1 < c.toNat) ∨ 0 < i ∧ c.toNat = 0) by omega)]
      by_cases c4 : c.toNat < 128
      · rw [if_pos (by omega), if_pos c4]; rfl
      · rw [if_neg (by omega), if_neg c4]; rfl
abbrev En : Type := Lf × List Int
end Go.Proofs.YtmfiaecglndldaaGreatDoor
end
section
namespace Go.L
def chunkF (s : List UInt8) : List UInt8 := vint (zz (s.length : Int)) ++ s
def itemsF (l : List Int) : List UInt8 := vint (zz (l.length : Int)) ++ l.flatMap fun i => vint (zz i)
end Go.L
namespace Go.Proofs.YtmfiaecglndldaaGreatDoor
open Go Go.L
/-- The form of an entry, of an index. -/
def lform (e : En) : List UInt8 := [chunkF e.1.1, vint (zz e.1.2.1), vint (zz e.1.2.2.1), chunkF e.1.2.2.2, itemsF e.2].flatten
def iform (n : Int) (es : List En) : List UInt8 := vint (zz n) ++ (vint (zz (es.length : Int)) ++ es.flatMap lform)
/-- Not too great for a machine. -/
def EnS (e : En) : Prop := e.1.1.length ≤ 2000000 ∧ I64 e.1.2.1 ∧ I64 e.1.2.2.1 ∧ e.1.2.2.2.length ≤ 2000000 ∧ (∀ z ∈ e.2, I64 z) ∧ e.2.length ≤ 1000000
theorem flatMap_vint_len (l : List Int) : (l.flatMap fun i => vint (zz i)).length ≤ 10 * l.length := by
  induction l with
  | nil => simp
  | cons a l ih => rw [List.flatMap_cons, List.length_append, List.length_cons]; have := vint_len (zz a); omega
theorem take_succ_flatMap {α β : Type} [Inhabited α] (f : α → List β) {l : List α} {i : Nat} (h : i < l.length) : (l.take (i + 1)).flatMap f = (l.take i).flatMap f ++ f (l.getD i default) := by
  rw [List.take_add_one, List.getElem?_eq_getElem h, Option.toList_some, List.flatMap_append];simp [List.getD_eq_getElem?_getD, List.getElem?_eq_getElem h]
theorem wsliceN {l : List Int} (h : ∀ z ∈ l, I64 z) (hl : l.length ≤ 1000000) : wslice_Number l = some (itemsF l) := by
  unfold wslice_Number;rw [number_eq (by unfold I64; omega), Option.bind_some];unfold wslice_Number_l2;have h0 := vint_len (zz (l.length : Int));refine run_count (fun i => (vint (zz (l.length : Int)) ++ (l.take i).flatMap (fun i => vint (zz i)), ((i : Nat) : Int))) l.length (fun i hi => ?_) ?_ 0 (Nat.zero_le _) |> fun hh => by simpa using hh
  · unfold wslice_Number_bl2;dsimp only;have h1 := flatMap_vint_len (l.take i);have h2 := vint_len (zz (l.getD i default));rw [List.length_take] at h1;rw [if_pos (by omega), chk_pos (by omega), Int.toNat_natCast, number_eq (h _ (getD_mem hi)), Option.bind_some, chk_pos (by unfold Go.E.Cap; simp only [List.length_append]; omega), chk_pos (by unfold I64; omega), take_succ_flatMap _ hi, List.append_assoc]
    rfl
  · unfold wslice_Number_bl2 wslice_Number_k1;dsimp only;rw [if_neg (by omega), List.take_length]
    rfl
theorem flat_take_len {α : Type} : ∀ (L : List (List α)) (i : Nat), (L.take i).flatten.length ≤ L.flatten.length
  | [], i => by simp
  | x :: L, 0 => by simp
  | x :: L, i + 1 => by have := flat_take_len L i; simp only [List.take_succ_cons, List.flatten_cons, List.length_append]; omega
theorem take_succ_flatten {α : Type} {L : List (List α)} {i : Nat} (h : i < L.length) : (L.take (i + 1)).flatten = (L.take i).flatten ++ L.getD i default := by
  rw [List.take_add_one, List.getElem?_eq_getElem h, Option.toList_some, List.flatten_append];simp [List.getD_eq_getElem?_getD, List.getElem?_eq_getElem h]
theorem grow_eq {n : Int} (h : 0 ≤ n ∧ n ≤ 1000000000000) : slices_Grow_byte_byte [] n = some [] := by
  unfold slices_Grow_byte_byte slices_Grow_byte_byte_k1;rw [if_neg (by omega), chk_pos (by unfold I64; omega), chk_pos (by unfold I64; omega)]
  split
  · rw [chk_pos (by omega)]
  · rfl
theorem concat_eq {L : List (List UInt8)} (hL : L.length ≤ 1000) (ht : L.flatten.length ≤ 1000000000000) : slices_Concat_byte_byte L = some L.flatten := by
  have hx : ∀ i, i < L.length → (L.take i).flatten.length + (L.getD i default).length ≤ 1000000000000 := fun i hi => by
    have h1 := flat_take_len L (i + 1);rw [take_succ_flatten hi, List.length_append] at h1;omega
  have k1 : slices_Concat_byte_byte_k1 L (L.flatten.length : Int) = some L.flatten := by
    unfold slices_Concat_byte_byte_k1;rw [grow_eq (by omega), Option.bind_some];unfold slices_Concat_byte_byte_l4;refine run_count (fun i => ((L.take i).flatten, ((i : Nat) : Int))) L.length (fun i hi => ?_) ?_ 0 (Nat.zero_le _)
    · unfold slices_Concat_byte_byte_bl4;dsimp only;have := hx i hi;rw [if_pos (by omega), chk_pos (by omega), Int.toNat_natCast, chk_pos (by unfold Go.E.Cap; omega), chk_pos (by unfold I64; omega), take_succ_flatten hi]
      rfl
    · unfold slices_Concat_byte_byte_bl4 slices_Concat_byte_byte_k3;dsimp only;rw [if_neg (by omega), List.take_length]
  unfold slices_Concat_byte_byte slices_Concat_byte_byte_l2;refine run_count (fun i => (((L.take i).flatten.length : Int), ((i : Nat) : Int))) L.length (fun i hi => ?_) ?_ 0 (Nat.zero_le _)
  · unfold slices_Concat_byte_byte_bl2;dsimp only;have := hx i hi;rw [if_pos (by omega), chk_pos (by omega), Int.toNat_natCast, chk_pos (by unfold I64; omega), if_neg (by omega), chk_pos (by unfold I64; omega), take_succ_flatten hi, List.length_append]
    rfl
  · unfold slices_Concat_byte_byte_bl2;dsimp only;rw [if_neg (by omega), List.take_length, k1]
theorem lform_len {e : En} (h : EnS e) : (lform e).length ≤ 20000000 := by
  obtain ⟨h1, _, _, h4, _, h6⟩ := h;unfold lform chunkF itemsF;simp only [List.flatten_cons, List.flatten_nil, List.length_append, List.length_nil];have := flatMap_vint_len e.2;have := vint_len (zz (e.1.1.length : Int));have := vint_len (zz e.1.2.1);have := vint_len (zz e.1.2.2.1);have := vint_len (zz (e.1.2.2.2.length : Int));have := vint_len (zz (e.2.length : Int));omega
theorem chunk_eq {s : List UInt8} (h : s.length ≤ 2000000) : wire_Chunk s = some (chunkF s) := by
  unfold wire_Chunk chunkF;have := vint_len (zz (s.length : Int));rw [number_eq (by unfold I64; omega), Option.bind_some, chk_pos (by unfold Go.E.Cap; omega)]
theorem form_eq {e : En} (h : EnS e) : shapes_form e = some (lform e) := by
  have hl := lform_len h;obtain ⟨h1, h2, h3, h4, h5, h6⟩ := h;unfold shapes_form;rw [chk_pos (by omega), chunk_eq h1, Option.bind_some, number_eq h2, Option.bind_some, number_eq h3, Option.bind_some, chk_pos (by omega), chunk_eq h4, Option.bind_some, wsliceN h5 h6, Option.bind_some, concat_eq (by simp) (by unfold lform at hl; omega)]
  rfl
theorem flatMap_len_le {α β : Type} (f : α → List β) (B : Nat) : ∀ {l : List α}, (∀ x ∈ l, (f x).length ≤ B) → (l.flatMap f).length ≤ l.length * B
  | [], _ => by simp
  | x :: l, h => by
    rw [List.flatMap_cons, List.length_append, List.length_cons, Nat.add_mul];have := h x (.head _);have := flatMap_len_le f B fun y hy => h y (.tail _ hy);omega
theorem bytes_eq {n : Int} {es : List En} (hn : I64 n) (hl : es.length ≤ 1000000) (h : ∀ e ∈ es, EnS e) : shapes_Index_Bytes (n, es) = some (iform n es) := by
  have ht := flatMap_len_le lform 20000000 (l := es) fun x hx => lform_len (h x hx);have h0 := vint_len (zz (es.length : Int));have h1 := vint_len (zz n)
  have hw : wslice_form es = some (vint (zz (es.length : Int)) ++ es.flatMap lform) := by
    unfold wslice_form;rw [number_eq (by unfold I64; omega), Option.bind_some];unfold wslice_form_l2;refine run_count (fun i => (vint (zz (es.length : Int)) ++ (es.take i).flatMap lform, ((i : Nat) : Int))) es.length (fun i hi => ?_) ?_ 0 (Nat.zero_le _) |> fun hh => by simpa using hh
    · unfold wslice_form_bl2;dsimp only;have k1 := flatMap_len_le lform 20000000 (l := es.take i) fun x hx => lform_len (h x (List.mem_of_mem_take hx));rw [List.length_take] at k1;have k2 := lform_len (h _ (getD_mem hi));have k3 : min i es.length * 20000000 ≤ 1000000 * 20000000 := Nat.mul_le_mul_right _ (by omega);rw [if_pos (by omega), chk_pos (by omega), Int.toNat_natCast]
      show (shapes_form (es.getD i default)).bind _ = _
      rw [form_eq (h _ (getD_mem hi)), Option.bind_some, chk_pos (by unfold Go.E.Cap; simp only [List.length_append]; omega), chk_pos (by unfold I64; omega), take_succ_flatMap _ hi, List.append_assoc]
      rfl
    · unfold wslice_form_bl2 wslice_form_k1;dsimp only;rw [if_neg (by omega), List.take_length]
  unfold shapes_Index_Bytes;dsimp only;have k4 : es.length * 20000000 ≤ 1000000 * 20000000 := Nat.mul_le_mul_right _ hl;rw [number_eq hn, Option.bind_some, hw, Option.bind_some, chk_pos (by unfold Go.E.Cap; simp only [List.length_append]; omega)]
  rfl
/-! ### Valid entries -/
structure EV (n : Int) (e : En) : Prop where
  path : e.1.1.length ≤ 330 ∧ ¬ 0 ≤ wr false 0 (sl e.1.1)
  kind : 1 ≤ e.1.2.1 ∧ e.1.2.1 ≤ 4
  num : e.1.2.2.1 = 0 ∨ e.1.2.1 = 1
  text : e.1.2.2.2 = [] ∨ e.1.2.1 = 2
  ne : e.2 ≠ []
  items : ∀ z ∈ e.2, 0 ≤ z ∧ z < n
  inc : e.2.Pairwise (fun a b => a < b)
theorem inc_of {l : List Int} (h : ∀ j, 0 < j → j < l.length → l.getD (j - 1) default < l.getD j default) : l.Pairwise (fun a b => a < b) := by
  rw [List.pairwise_iff_getElem];intro i j hi hj hij
  have key : ∀ d, i + d + 1 < l.length → l.getD i default < l.getD (i + d + 1) default := by
    intro d
    induction d with
    | zero => intro hd; exact h (i + 1) (by omega) hd
    | succ d ih =>
      intro hd;have h1 := ih (by omega);have h2 := h (i + (d + 1) + 1) (by omega) hd;rw [show i + (d + 1) + 1 - 1 = i + d + 1 by omega] at h2;omega
  have := key (j - i - 1) (by omega);rw [show i + (j - i - 1) + 1 = j by omega] at this
  simpa [List.getD_eq_getElem?_getD, List.getElem?_eq_getElem hi, List.getElem?_eq_getElem hj] using this
theorem val_run {e : En} {n : Int} (hl : e.2.length ≤ 1000000) : ∀ (k i : Nat), i + k = e.2.length → ∃ c, Go.L.run (shapes_entry_valid_bl20 e n) (i : Int) = some c ∧
    (c = true ↔ ∀ j, i ≤ j → j < e.2.length → (0 ≤ e.2.getD j default ∧ e.2.getD j default < n) ∧ (0 < j → e.2.getD (j - 1) default < e.2.getD j default))
  | 0, i, hi => by
    refine ⟨true, run_inr (m := some true) ?_, by simp; intro j h1 h2; omega⟩;unfold shapes_entry_valid_bl20 shapes_entry_valid_k19;rw [if_neg (by omega)]
  | k + 1, i, hi => by
    have hil : i < e.2.length := by omega
    have hb : shapes_entry_valid_bl20 e n (i : Int) = if (0 ≤ e.2.getD i default ∧ e.2.getD i default < n) ∧ (0 < i → e.2.getD (i - 1) default < e.2.getD i default) then some (.inl ((i + 1 : Nat) : Int)) else some (.inr false) := by
      unfold shapes_entry_valid_bl20;have k1 : I64 ((i : Int) + 1) := by unfold I64; omega
      have k2 : I64 ((i : Int) - 1) := by unfold I64; omega
      simp only [chk_pos k1, chk_pos k2];rw [if_pos (by omega), chk_pos (by omega), Int.toNat_natCast, show ((i : Int) - 1).toNat = i - 1 by omega];generalize e.2.getD i default = z;generalize e.2.getD (i - 1) default = y
      by_cases c1 : z < 0 ∨ n ≤ z
      · rw [if_pos c1, if_neg (by omega)]; rfl
      · rw [if_neg c1]
        by_cases c2 : 0 < i
        · rw [if_pos (by omega), chk_pos (by omega)]
          by_cases c3 : z ≤ y
          · rw [if_pos c3, if_neg (by omega)]; rfl
          · rw [if_neg c3, if_pos (by omega)]; rfl
        · rw [if_neg (by omega), if_pos (by omega)]; rfl
    by_cases hc : (0 ≤ e.2.getD i default ∧ e.2.getD i default < n) ∧ (0 < i → e.2.getD (i - 1) default < e.2.getD i default)
    · rw [if_pos hc] at hb;obtain ⟨c, h1, h2⟩ := val_run hl k (i + 1) (by omega);refine ⟨c, by rw [run_inl hb, h1], h2.trans ⟨fun h j hj hj2 => ?_, fun h j hj hj2 => h j (by omega) hj2⟩⟩
      by_cases hji : j = i
      · subst hji; exact hc
      · exact h j (by omega) hj2
    · rw [if_neg hc] at hb;exact ⟨false, run_inr (m := some false) hb, by simp only [Bool.false_eq_true, false_iff]; exact fun h => hc (h i (Nat.le_refl _) hil)⟩
theorem valid_ex (e : En) (n : Int) (hl : e.2.length ≤ 1000000) : ∃ c, shapes_entry_valid e n = some c ∧ (c = true ↔ EV n e) := by
  have b2 : shapes_entry_valid_bl2 = shapes_entry_valid_bl20 := rfl;have b4 : shapes_entry_valid_bl4 = shapes_entry_valid_bl20 := rfl;have b6 : shapes_entry_valid_bl6 = shapes_entry_valid_bl20 := rfl;have b8 : shapes_entry_valid_bl8 = shapes_entry_valid_bl20 := rfl;have b10 : shapes_entry_valid_bl10 = shapes_entry_valid_bl20 := rfl;have b12 : shapes_entry_valid_bl12 = shapes_entry_valid_bl20 := rfl;have b14 : shapes_entry_valid_bl14 = shapes_entry_valid_bl20 := rfl;have b16 : shapes_entry_valid_bl16 = shapes_entry_valid_bl20 := rfl;have b18 : shapes_entry_valid_bl18 = shapes_entry_valid_bl20 := rfl;obtain ⟨c, h1, h2⟩ := val_run (e := e) (n := n) hl e.2.length 0 (by omega)
  have hrun : ((e.1.1.length ≤ 330 ∧ ¬ 0 ≤ wr false 0 (sl e.1.1)) ∧ (1 ≤ e.1.2.1 ∧ e.1.2.1 ≤ 4) ∧ (e.1.2.2.1 = 0 ∨ e.1.2.1 = 1) ∧ (e.1.2.2.2 = [] ∨ e.1.2.1 = 2) ∧ e.2 ≠ []) → ∃ c, Go.L.run (shapes_entry_valid_bl20 e n) 0 = some c ∧ (c = true ↔ EV n e) := by
    rintro ⟨g1, g2, g3, g4, g5⟩;refine ⟨c, h1, h2.trans ⟨fun h => ⟨g1, g2, g3, g4, g5, fun z hz => ?_, inc_of fun j h0 hj => (h j (Nat.zero_le _) hj).2 h0⟩, fun h j _ hj => ⟨h.items _ (getD_mem hj), fun h0 => ?_⟩⟩⟩
    · obtain ⟨j, hj, rfl⟩ := List.getElem_of_mem hz;have := (h j (Nat.zero_le _) hj).1
      simpa [List.getD_eq_getElem?_getD, List.getElem?_eq_getElem hj] using this
    · have := List.pairwise_iff_getElem.1 h.inc (j - 1) j (by omega) hj (by omega)
      simpa [List.getD_eq_getElem?_getD, List.getElem?_eq_getElem hj, List.getElem?_eq_getElem (show j - 1 < e.2.length by omega)] using this
  have no : ¬ ((e.1.1.length ≤ 330 ∧ ¬ 0 ≤ wr false 0 (sl e.1.1)) ∧ (1 ≤ e.1.2.1 ∧ e.1.2.1 ≤ 4) ∧ (e.1.2.2.1 = 0 ∨ e.1.2.1 = 1) ∧ (e.1.2.2.2 = [] ∨ e.1.2.1 = 2) ∧ e.2 ≠ []) → ∃ c, (some false : Option Bool) = some c ∧ (c = true ↔ EV n e) := fun h => ⟨false, rfl, by simp only [Bool.false_eq_true, false_iff]; exact fun hv => h ⟨hv.path, hv.kind, hv.num, hv.text, hv.ne⟩⟩;have hne : (e.2.length : Int) = 0 ↔ e.2 = [] := by rw [← List.length_eq_zero_iff]; omega
  unfold shapes_entry_valid shapes_entry_valid_l2 shapes_entry_valid_l4 shapes_entry_valid_l6 shapes_entry_valid_l8 shapes_entry_valid_l10 shapes_entry_valid_l12 shapes_entry_valid_l14 shapes_entry_valid_l16 shapes_entry_valid_l18 shapes_entry_valid_l20;rw [b2, b4, b6, b8, b10, b12, b14, b16, b18, isPath_eq, Option.bind_some]
  by_cases g1 : e.1.1.length ≤ 330 ∧ ¬ 0 ≤ wr false 0 (sl e.1.1)
  · have d1 : (!decide (e.1.1.length ≤ 330 ∧ ¬ 0 ≤ wr false 0 (sl e.1.1))) = false := by simp [g1]
    rw [d1, if_neg (by decide)]
    by_cases g2 : e.1.2.1 < 1
    · rw [if_pos g2, if_pos g2]; exact no (fun h => by omega)
    · rw [if_neg g2]
      by_cases g3 : 4 < e.1.2.1
      · rw [if_pos g3, if_pos g3]; exact no (fun h => by omega)
      · rw [if_neg g3]
        by_cases g4 : e.1.2.2.1 = 0 <;> by_cases g5 : e.1.2.2.2 = [] <;> by_cases g6 : e.1.2.1 = 2 <;> by_cases g7 : e.1.2.1 = 1 <;> by_cases g8 : e.2 = [] <;>
          first
          | (exfalso; omega)
          | (simp only [g4, g5, g6, g7, hne, g8, if_true, if_false]
             first
             | exact hrun ⟨g1, by omega, by omega, by first | exact .inl g5 | exact .inr g6, g8⟩
             | exact no fun h => by first | exact absurd h.2.2.1 (by omega) | exact h.2.2.2.1.elim g5 g6 | exact h.2.2.2.2 g8)
  · have d1 : (!decide (e.1.1.length ≤ 330 ∧ ¬ 0 ≤ wr false 0 (sl e.1.1))) = true := by simp only [decide_eq_false g1, Bool.not_false]
    rw [d1, if_pos rfl, if_pos rfl];exact no (fun h => g1 h.1)
end Go.Proofs.YtmfiaecglndldaaGreatDoor
end
section
namespace Go.L
/-- What m yields, m' yields. -/
def Ap {α : Type} (m m' : Option α) : Prop := ∀ r, m = some r → m' = some r
theorem apR {α : Type} (m : Option α) : Ap m m := fun _ h => h
theorem apB {α β : Type} {m m' : Option α} {f f' : α → Option β} (h : Ap m m') (k : ∀ x, Ap (f x) (f' x)) : Ap (Option.bind m f) (Option.bind m' f') := fun r e => by
  obtain ⟨x, h1, h2⟩ := bind_some e;rw [h x h1, Option.bind_some];exact k x r h2
theorem apC {α : Type} {p : Prop} [Decidable p] {m m' : Option α} (h : Ap m m') : Ap (Go.L.chk p m) (Go.L.chk p m') := fun r e => by
  obtain ⟨h1, h2⟩ := chk_some e;rw [chk_pos h1];exact h r h2
theorem apI {α : Type} {p : Prop} [Decidable p] {a b a' b' : Option α} (h : Ap a a') (k : Ap b b') : Ap (if p then a else b) (if p then a' else b') := fun r e => by
  by_cases hp : p
  · rw [if_pos hp] at e ⊢; exact h r e
  · rw [if_neg hp] at e ⊢; exact k r e
theorem apM {α β : Type} {f : α → β} {m m' : Option α} (h : Ap m m') : Ap (Option.map f m) (Option.map f m') := fun r e => by
  cases m with
  | none => cases e
  | some x => rw [h x rfl]; exact e
theorem apO {α β : Type} {x : Option α} {ex ex' : Option β} {k k' : α → Option β} (h : Ap ex ex') (hk : ∀ y, Ap (k y) (k' y)) : Ap (Go.L.onX x ex k) (Go.L.onX x ex' k') := by
  cases x with
  | none => exact h
  | some y => exact hk y
theorem Ap.itr {σ ρ : Type} {b b' : σ → Option (σ ⊕ ρ)} (h : ∀ s, Ap (b s) (b' s)) : ∀ (n : Nat) (s : σ), Ap (itr b n s) (itr b' n s)
  | 0, _ => fun _ e => by cases e
  | n + 1, s => fun r e => by
    obtain ⟨m, x, hm, h1, h2⟩ := itr_some e;obtain rfl : n = m := by omega
    rw [Go.L.itr, h s x h1]
    cases x with
    | inl s' => exact Ap.itr h n s' r h2
    | inr y => exact congrArg some h2
theorem Ap.run {σ ρ : Type} {b b' : σ → Option (σ ⊕ ρ)} (h : ∀ s, Ap (b s) (b' s)) (n : Nat) (s : σ) : Ap (Go.L.itr b n s) (Go.L.run b' s) := fun r e => run_of (Ap.itr h n s r e)
/-- A computation with its loops cut off. -/
class Mi {α : Type} (m : Option α) where
  c : Option α
  h : Ap c m
noncomputable instance {α : Type} (x : α) : Mi (some x) := ⟨some x, apR _⟩
noncomputable instance {α : Type} : Mi (none : Option α) := ⟨none, apR _⟩
noncomputable instance iB {α β : Type} (m : Option α) (f : α → Option β) [i : Mi m] [j : ∀ x, Mi (f x)] : Mi (Option.bind m f) := ⟨Option.bind i.c fun x => (j x).c, apB i.h fun x => (j x).h⟩
noncomputable instance iC {α : Type} (p : Prop) [Decidable p] (m : Option α) [i : Mi m] : Mi (Go.L.chk p m) := ⟨Go.L.chk p i.c, apC i.h⟩
noncomputable instance iI {α : Type} (p : Prop) [Decidable p] (a b : Option α) [i : Mi a] [j : Mi b] : Mi (if p then a else b) := ⟨if p then i.c else j.c, apI i.h j.h⟩
noncomputable instance {α β : Type} (f : α → β) (m : Option α) [i : Mi m] : Mi (Option.map f m) := ⟨Option.map f i.c, apM i.h⟩
noncomputable instance {α β : Type} (x : Option α) (ex : Option β) (k : α → Option β) [i : Mi ex] [j : ∀ y, Mi (k y)] : Mi (Go.L.onX x ex k) := ⟨Go.L.onX x i.c fun y => (j y).c, apO i.h fun y => (j y).h⟩
noncomputable instance {σ ρ : Type} (b : σ → Option (σ ⊕ ρ)) (s : σ) [i : ∀ s, Mi (b s)] : Mi (Go.L.run b s) := ⟨Go.L.itr (fun s => (i s).c) 200 s, Ap.run (fun s => (i s).h) 200 s⟩
end Go.L
namespace Go.L
/-! ### Sorting by insertion -/
def insB {α : Type} (le : α → α → Bool) (a : α) : List α → List α
  | [] => [a]
  | b :: l => if le a b then a :: b :: l else b :: insB le a l
def isB {α : Type} (le : α → α → Bool) : List α → List α
  | [] => []
  | a :: l => insB le a (isB le l)
section
variable {α : Type} {le : α → α → Bool}
theorem insB_perm (a : α) : ∀ l : List α, (insB le a l).Perm (a :: l)
  | [] => .refl _
  | b :: l => by
    unfold insB
    split
    · exact .refl _
    · exact ((insB_perm a l).cons b).trans (.swap a b l)
theorem isB_perm : ∀ l : List α, (isB le l).Perm l
  | [] => .refl _
  | a :: l => (insB_perm a _).trans ((isB_perm l).cons a)
theorem insB_sorted (htr : ∀ a b c, le a b = true → le b c = true → le a c = true) (hto : ∀ a b, le a b = true ∨ le b a = true) (a : α) : ∀ l : List α, l.Pairwise (fun x y => le x y = true) → (insB le a l).Pairwise fun x y => le x y = true
  | [], _ => List.pairwise_singleton _ _
  | b :: l, h => by
    unfold insB
    split
    · rename_i h1;refine .cons (fun x hx => ?_) h
      rcases List.mem_cons.1 hx with rfl | hx
      · exact h1
      · exact htr _ _ _ h1 ((List.pairwise_cons.1 h).1 x hx)
    · rename_i h1;have h2 : le b a = true := by rcases hto a b with h | h; exact absurd h h1; exact h
      refine .cons (fun x hx => ?_) (insB_sorted htr hto a l (List.pairwise_cons.1 h).2)
      rcases List.mem_cons.1 ((insB_perm a l).mem_iff.1 hx) with rfl | hx
      · exact h2
      · exact (List.pairwise_cons.1 h).1 x hx
theorem isB_sorted (htr : ∀ a b c, le a b = true → le b c = true → le a c = true) (hto : ∀ a b, le a b = true ∨ le b a = true) : ∀ l : List α, (isB le l).Pairwise fun x y => le x y = true
  | [] => .nil
  | a :: l => insB_sorted htr hto a _ (isB_sorted htr hto l)
theorem sorted_eq (has : ∀ a b, le a b = true → le b a = true → a = b) : ∀ {l m : List α}, l.Perm m → l.Pairwise (fun x y => le x y = true) → m.Pairwise (fun x y => le x y = true) → l = m
  | [], m, hp, _, _ => hp.nil_eq
  | a :: l, m, hp, hl, hm => by
    cases m with
    | nil => exact absurd hp.symm.nil_eq (by simp)
    | cons b m =>
      obtain ⟨l1, l2⟩ := List.pairwise_cons.1 hl;obtain ⟨m1, m2⟩ := List.pairwise_cons.1 hm
      have hab : a = b := by
        rcases List.mem_cons.1 (hp.mem_iff.1 (.head _)) with h1 | h1
        · exact h1
        · rcases List.mem_cons.1 (hp.mem_iff.2 (.head _)) with h2 | h2
          · exact h2.symm
          · exact has a b (l1 b h2) (m1 a h1)
      subst hab;rw [sorted_eq has hp.cons_inv l2 m2]
theorem isB_eq (htr : ∀ a b c, le a b = true → le b c = true → le a c = true) (hto : ∀ a b, le a b = true ∨ le b a = true) (has : ∀ a b, le a b = true → le b a = true → a = b) (l : List α) : isB le l = l.mergeSort le :=
  sorted_eq has ((isB_perm l).trans (List.mergeSort_perm l _).symm) (isB_sorted htr hto l) (List.pairwise_mergeSort htr (fun a b => by simpa using hto a b) l)
end
def isS (l : List (List UInt8)) : List (List UInt8) := isB (fun x y => decide (x ≤ y)) l
def isI (l : List Int) : List Int := isB (fun x y => decide (x ≤ y)) l
def isL (l : List Lf) : List Lf := isB (fun x y => !(Go.Proofs.ltOf lfCmp) y x) l
theorem isI_eq (l : List Int) : isI l = Go.E.srtI l := isB_eq (fun a b c h1 h2 => by simp only [decide_eq_true_eq] at *; omega) (fun a b => by simp only [decide_eq_true_eq]; omega) (fun a b h1 h2 => by simp only [decide_eq_true_eq] at *; omega) l
theorem isS_eq (l : List (List UInt8)) : isS l = Go.E.srtS l := isB_eq (fun a b c h1 h2 => by simp only [decide_eq_true_eq] at *; exact List.le_trans h1 h2) (fun a b => by simp only [decide_eq_true_eq]; exact List.le_total a b) (fun a b h1 h2 => by simp only [decide_eq_true_eq] at *; exact List.le_antisymm h1 h2) l
theorem isL_eq (l : List Lf) : isL l = srtL l := by
  have hlt : ∀ a b, (!(Go.Proofs.ltOf lfCmp) b a) = true ↔ ¬ lfCmp b a < 0 := fun a b => by simp [Go.Proofs.ltOf]
  refine isB_eq (fun a b c h1 h2 => ?_) (fun a b => ?_) (fun a b h1 h2 => ?_) l
  · rw [hlt] at *;intro h3;have s1 := ordLf.swap a b
    rcases Int.lt_trichotomy (lfCmp a b) 0 with h4 | h4 | h4
    · exact h2 (ordLf.trans c a b h3 h4)
    · rw [ordLf.zero a b h4] at h3; exact h2 h3
    · omega
  · rw [hlt, hlt];have s1 := ordLf.swap a b;omega
  · exact ordLf.parts a b (by simpa using h2) (by simpa using h1)
end Go.L
namespace Go.Proofs.YtmfiaecglndldaaGreatDoor
open Go Go.E Go.L
noncomputable def sortedKi (l : List (Lf × List Int)) : Option (List Lf) := Go.L.chk (Go.E.Cap 48 l.length) (some (isL (l.map Prod.fst)))
theorem sortedKi_eq (l : List (Lf × List Int)) : sortedKi l = sortedK l := by unfold sortedKi sortedK; rw [isL_eq]
noncomputable instance (l : List (Lf × List Int)) : Mi (sortedK l) := ⟨sortedKi l, by rw [sortedKi_eq]; exact apR _⟩
end Go.Proofs.YtmfiaecglndldaaGreatDoor
end
section
namespace Go.L
section
variable {α : Type} {le : α → α → Prop}
/-- Two lists in strict order with the same elements are one. -/
theorem uniq_sorted (has : ∀ a b, le a b → le b a → a = b) : ∀ {l m : List α}, l.Pairwise (fun a b => le a b ∧ a ≠ b) → m.Pairwise (fun a b => le a b ∧ a ≠ b) → (∀ x, x ∈ l ↔ x ∈ m) → l = m
  | [], m, _, _, h => by
    cases m with
    | nil => rfl
    | cons b m => exact absurd ((h b).2 (.head _)) (by simp)
  | a :: l, [], _, _, h => absurd ((h a).1 (.head _)) (by simp)
  | a :: l, b :: m, hl, hm, h => by
    obtain ⟨l1, l2⟩ := List.pairwise_cons.1 hl;obtain ⟨m1, m2⟩ := List.pairwise_cons.1 hm
    have hab : a = b := by
      rcases List.mem_cons.1 ((h a).1 (.head _)) with h1 | h1
      · exact h1
      · rcases List.mem_cons.1 ((h b).2 (.head _)) with h2 | h2
        · exact h2.symm
        · exact has a b (l1 b h2).1 (m1 a h1).1
    subst hab
    have : l = m := uniq_sorted has l2 m2 fun x => by
      constructor
      · intro hx
        rcases List.mem_cons.1 ((h x).1 (.tail _ hx)) with h1 | h1
        · exact absurd h1.symm (l1 x hx).2
        · exact h1
      · intro hx
        rcases List.mem_cons.1 ((h x).2 (.tail _ hx)) with h1 | h1
        · exact absurd h1.symm (m1 x hx).2
        · exact h1
    rw [this]
theorem compactUpTo_spec [Inhabited α] [DecidableEq α] (hre : ∀ a, le a a) (htr : ∀ a b c, le a b → le b c → le a c) (has : ∀ a b, le a b → le b a → a = b) (d : Array α) (hs : ∀ i j, i < j → j < d.size → le d[i]! d[j]!) : ∀ m, m ≤ d.size →
    (Lib.compactUpTo d m).Pairwise (fun a b => le a b ∧ a ≠ b) ∧ (∀ x, x ∈ Lib.compactUpTo d m ↔ ∃ j, j < m ∧ x = d[j]!)
  | 0, _ => ⟨by simp [Lib.compactUpTo], fun x => by simp [Lib.compactUpTo]⟩
  | m + 1, hm => by
    obtain ⟨h1, h2⟩ := compactUpTo_spec hre htr has d hs m (by omega);rw [Lib.compactUpTo_succ]
    by_cases hk : Lib.keeps d m = true
    · rw [if_pos hk];refine ⟨List.pairwise_append.2 ⟨h1, List.pairwise_singleton _ _, fun a ha b hb => ?_⟩, fun x => ?_⟩
      · rw [List.mem_singleton] at hb;subst hb;obtain ⟨j, hj, rfl⟩ := (h2 a).1 ha;refine ⟨hs j m hj (by omega), fun e => ?_⟩;unfold Lib.keeps at hk;rw [decide_eq_true_eq] at hk
        rcases hk with hk | hk
        · omega
        · refine hk (has _ _ ?_ ?_)
          · by_cases hjm : j = m - 1
            · rw [← e, hjm]; exact hre _
            · rw [← e]; exact hs j (m - 1) (by omega) (by omega)
          · exact hs (m - 1) m (by omega) (by omega)
      · rw [List.mem_append, h2, List.mem_singleton]
        constructor
        · rintro (⟨j, hj, rfl⟩ | rfl)
          · exact ⟨j, by omega, rfl⟩
          · exact ⟨m, by omega, rfl⟩
        · rintro ⟨j, hj, rfl⟩
          by_cases hjm : j = m
          · subst hjm; exact .inr rfl
          · exact .inl ⟨j, by omega, rfl⟩
    · have hk' : ¬ (m = 0 ∨ d[m]! ≠ d[m - 1]!) := by
        unfold Lib.keeps at hk
        simpa using hk
      rw [if_neg hk, List.append_nil];refine ⟨h1, fun x => (h2 x).trans ?_⟩
      constructor
      · rintro ⟨j, hj, rfl⟩; exact ⟨j, by omega, rfl⟩
      · rintro ⟨j, hj, rfl⟩
        by_cases hjm : j = m
        · subst hjm;have e : d[j]! = d[j - 1]! := Decidable.not_not.1 fun h => hk' (.inr h);have h0 : j ≠ 0 := fun h => hk' (.inl h);exact ⟨j - 1, by omega, e⟩
        · exact ⟨j, by omega, rfl⟩
theorem compact_spec [Inhabited α] [DecidableEq α] (hre : ∀ a, le a a) (htr : ∀ a b c, le a b → le b c → le a c) (has : ∀ a b, le a b → le b a → a = b) {l : List α} (hs : l.Pairwise le) : (Lib.compact l).Pairwise (fun a b => le a b ∧ a ≠ b) ∧ ∀ x, x ∈ Lib.compact l ↔ x ∈ l := by
  have hget : ∀ i, i < l.length → l.toArray[i]! = l.getD i default := fun i hi => by simp [hi]
  have := compactUpTo_spec hre htr has l.toArray (fun i j hij hj => by
    have hj' : j < l.length := by simpa using hj
    have hi' : i < l.length := by omega
    have := List.pairwise_iff_getElem.1 hs i j hi' hj' hij
    simpa [hi', hj'] using this) l.length (by simp)
  refine ⟨this.1, fun x => (this.2 x).trans ?_⟩
  constructor
  · rintro ⟨j, hj, rfl⟩;simp [hj]
  · intro hx;obtain ⟨j, hj, rfl⟩ := List.getElem_of_mem hx;exact ⟨j, hj, by simp [hj]⟩
end
theorem srtI_perm (l : List Int) : (Go.E.srtI l).Perm l := List.mergeSort_perm l _
theorem srtI_sorted (l : List Int) : (Go.E.srtI l).Pairwise (fun x y => x ≤ y) := by
  have := List.pairwise_mergeSort (le := fun x y : Int => decide (x ≤ y)) (fun a b c h1 h2 => by simp only [decide_eq_true_eq] at *; omega) (fun a b => by simpa using Int.le_total a b) l;exact this.imp fun h => by simpa using h
def setI (l : List Int) : List Int := Lib.compact (Go.E.srtI l)
theorem setI_spec (l : List Int) : (setI l).Pairwise (fun a b => a ≤ b ∧ a ≠ b) ∧ ∀ x, x ∈ setI l ↔ x ∈ l := by
  have := compact_spec (le := fun a b : Int => a ≤ b) Int.le_refl (fun _ _ _ => Int.le_trans) (fun _ _ => Int.le_antisymm) (srtI_sorted l);exact ⟨this.1, fun x => (this.2 x).trans (srtI_perm l).mem_iff⟩
theorem setI_eq {l m : List Int} (hm : m.Pairwise (fun a b => a ≤ b ∧ a ≠ b)) (h : ∀ x, x ∈ m ↔ x ∈ l) : setI l = m :=
  uniq_sorted (fun _ _ => Int.le_antisymm) (setI_spec l).1 hm fun x => ((setI_spec l).2 x).trans (h x).symm
end Go.L
end
section
namespace Go.L
section
variable {κ β : Type} [DecidableEq κ]
theorem mget_mput (d : β) (k k' : κ) (y : β) : ∀ M : List (κ × β), mget d k' (mput k y M) = if k' = k then y else mget d k' M
  | [] => by simp only [mput, mget]
  | (a, z) :: M => by
    unfold mput
    by_cases h : k = a
    · subst h;rw [if_pos rfl];unfold mget
      by_cases h2 : k' = k
      · rw [if_pos h2, if_pos h2]
      · rw [if_neg h2, if_neg h2]; rw [if_neg h2]
    · rw [if_neg h];unfold mget;rw [mget_mput d k k' y M]
      by_cases h2 : k' = a
      · rw [if_pos h2, if_neg (fun e => h (e.symm.trans h2)), if_pos h2]
      · rw [if_neg h2, if_neg h2]
theorem mput_mem {k : κ} (y : β) : ∀ {M : List (κ × β)}, k ∈ M.map Prod.fst → (mput k y M).map Prod.fst = M.map Prod.fst
  | [], h => by cases h
  | (a, z) :: M, h => by
    unfold mput
    by_cases hk : k = a
    · subst hk; rw [if_pos rfl]; rfl
    · rw [if_neg hk];simp only [List.map_cons, List.mem_cons] at h ⊢;rw [mput_mem y (h.resolve_left hk)]
theorem mput_new {k : κ} (y : β) : ∀ {M : List (κ × β)}, k ∉ M.map Prod.fst → mput k y M = M ++ [(k, y)]
  | [], _ => rfl
  | (a, z) :: M, h => by
    unfold mput;simp only [List.map_cons, List.mem_cons, not_or] at h;rw [if_neg h.1, mput_new y h.2]
    rfl
end
/-- An item of a leaf. -/
def addI (k : Lf) (i : Int) (M : List (Lf × List Int)) : List (Lf × List Int) := mput k (mget [] k M ++ [i]) M
def addL (k : Lf) (d : Int) (M : List (Lf × List Int)) (l : List Int) : List (Lf × List Int) := l.foldl (fun M z => addI k (z + d) M) M
end Go.L
namespace Go.Proofs.YtmfiaecglndldaaGreatDoor
open Go Go.L
/-- A good index. -/
structure GI (n : Int) (es : List En) : Prop where
  n0 : 0 ≤ n
  n64 : n ≤ 64
  ev : ∀ e ∈ es, EV n e
  sz : ∀ e ∈ es, EnS e
  len : es.length ≤ 1000000
  inc : es.Pairwise (fun a b => lfCmp a.1 b.1 < 0)
/-! ### build -/
/-- The entries of what was found. -/
def kIdx (M : List (Lf × List Int)) : List En := (srtL (M.map Prod.fst)).map fun k => (k, setI (mget [] k M))
def MS (M : List (Lf × List Int)) : Prop := M.length ≤ 1000000 ∧ ∀ k ∈ M.map Prod.fst, k.1.length ≤ 2000000 ∧ I64 k.2.1 ∧ I64 k.2.2.1 ∧ k.2.2.2.length ≤ 2000000 ∧ (mget [] k M).length ≤ 1000000 ∧ ∀ z ∈ mget [] k M, I64 z
theorem srtL_perm' (l : List Lf) : (srtL l).Perm l := List.mergeSort_perm l _
theorem setI_len (l : List Int) : (setI l).length ≤ l.length := Nat.le_trans (Go.E.compact_le _) (Nat.le_of_eq (srtI_perm l).length_eq)
theorem kIdx_S {M : List (Lf × List Int)} (h : MS M) : ∀ e ∈ kIdx M, EnS e := by
  intro e he;obtain ⟨k, hk, rfl⟩ := List.mem_map.1 he;obtain ⟨h1, h2, h3, h4, h5, h6⟩ := h.2 k ((srtL_perm' _).mem_iff.1 hk);exact ⟨h1, h2, h3, h4, fun z hz => h6 z (((setI_spec _).2 z).1 hz), Nat.le_trans (setI_len _) h5⟩
theorem kIdx_len (M : List (Lf × List Int)) : (kIdx M).length = M.length := by unfold kIdx; rw [List.length_map, srtL_length, List.length_map]
/-- What build answers. -/
def bres (n : Int) (M : List (Lf × List Int)) : (Int × List En) × (Int × Int) := if 16384 < (iform n (kIdx M)).length then ((0, []), (14, -1)) else ((n, kIdx M), (0, 0))
theorem build_eq {n : Int} {M : List (Lf × List Int)} (hn : I64 n) (h : MS M) : shapes_build n M = some (bres n M) := by
  unfold shapes_build sortedK;have hM := h.1;rw [chk_pos (by unfold Go.E.Cap; omega), Option.bind_some];unfold shapes_build_l2
  have hk1 : shapes_build_k1 n (kIdx M) = some (bres n M) := by
    unfold shapes_build_k1 shapes_fault bres;rw [bytes_eq hn (by rw [kIdx_len]; exact hM) (kIdx_S h), Option.bind_some]
    by_cases hc : 16384 < (iform n (kIdx M)).length
    · rw [if_pos (by omega), if_pos hc]; rfl
    · rw [if_neg (by omega), if_neg hc]
  have hkl : (srtL (M.map Prod.fst)).length = M.length := by rw [srtL_length, List.length_map]
  refine run_count (fun i => (((srtL (M.map Prod.fst)).take i).map (fun k => (k, setI (mget [] k M))), ((i : Nat) : Int))) (srtL (M.map Prod.fst)).length (fun i hi => ?_) ?_ 0 (Nat.zero_le _)
  · obtain ⟨h1, h2, h3, h4, h5, h6⟩ := h.2 _ ((srtL_perm' _).mem_iff.1 (getD_mem hi))
    have ht : ((srtL (M.map Prod.fst)).take (i + 1)).map (fun k => (k, setI (mget [] k M))) = ((srtL (M.map Prod.fst)).take i).map (fun k => (k, setI (mget [] k M))) ++ [((srtL (M.map Prod.fst)).getD i default, setI (mget [] ((srtL (M.map Prod.fst)).getD i default) M))] := by
      rw [List.take_add_one, List.getElem?_eq_getElem hi, Option.toList_some, List.map_append];simp [List.getD_eq_getElem?_getD, List.getElem?_eq_getElem hi]
    rw [ht];unfold shapes_build_bl2 slices_Clone_int_int;dsimp only;rw [if_pos (by omega), chk_pos (by omega), Int.toNat_natCast];generalize (srtL (M.map Prod.fst)).getD i default = k at *;have e5 : ((k.1, k.2.1, k.2.2.1, k.2.2.2) : Lf) = k := rfl;simp only [e5];rw [chk_pos (by unfold Go.E.Cap; simp only [List.length_nil]; show (0 + (mget [] k M).length) * 8 ≤ _ ∧ _; omega), Option.bind_some]
    show Go.L.chk (([] ++ mget [] k M).length < _) _ = _
    rw [List.nil_append, chk_pos (by omega), chk_pos (by rw [(srtI_perm _).length_eq]; omega), chk_pos (by unfold Go.E.Cap; simp only [List.length_map, List.length_take, List.length_cons, List.length_nil]; omega), chk_pos (by unfold I64; omega)]
    rfl
  · unfold shapes_build_bl2;dsimp only;rw [if_neg (by omega), List.take_length];exact congrArg (Option.map Sum.inr) hk1
/-! ### Merge -/
def addE (d : Int) (M : List (Lf × List Int)) (e : En) : List (Lf × List Int) := addL e.1 d M e.2
def Bd (N : Nat) (M : List (Lf × List Int)) : Prop := ∀ k, (mget [] k M).length ≤ N
/-- What two indexes have found. -/
def both (n1 : Int) (es1 es2 : List En) : List (Lf × List Int) := es2.foldl (addE n1) (es1.foldl (addE 0) [])
end Go.Proofs.YtmfiaecglndldaaGreatDoor
end
section
namespace Go.L
theorem nu_add {u g i : Nat} {c : UInt8} (hc : (c &&& 127).toNat = g) (hu : u < 2 ^ (7 * i)) (hs : u + g * 2 ^ (7 * i) < 18446744073709551616) : nu u i c = u + g * 2 ^ (7 * i) := by
  unfold nu;rw [hc, Nat.mod_eq_of_lt (by omega), Nat.or_comm, Nat.mul_comm, ← Nat.two_pow_add_eq_or_of_lt hu, Nat.add_comm, Nat.mul_comm]
set_option maxRecDepth 20000 in
theorem and127 {v : Nat} : (UInt8.ofNat (v % 128 + 128) &&& 127).toNat = v % 128 := by
  have h : ∀ b : Fin 128, (UInt8.ofNat (b.val + 128) &&& 127).toNat = b.val := by decide
  exact h ⟨v % 128, Nat.mod_lt _ (by decide)⟩
set_option maxRecDepth 20000 in
theorem and127s {v : Nat} (hv : v < 128) : (UInt8.ofNat v &&& 127).toNat = v := by
  have h : ∀ b : Fin 128, (UInt8.ofNat b.val &&& 127).toNat = b.val := by decide
  exact h ⟨v, hv⟩
theorem getD_mid {α : Type} [Inhabited α] (A B : List α) (x : α) : (A ++ x :: B).getD A.length default = x := by
  rw [List.getD_eq_getElem?_getD, List.getElem?_append_right (Nat.le_refl _), Nat.sub_self]; rfl
end Go.L
namespace Go.Proofs.YtmfiaecglndldaaGreatDoor
open Go Go.L
theorem rn_at {A C : List UInt8} (u : Nat) (hu : u < 2 ^ 64) : ∀ (k i v acc : Nat) (P : List UInt8), i + k = 10 → P.length = i → u = acc + v * 2 ^ (7 * i) → acc < 2 ^ (7 * i) → (i = 0 ∨ 1 ≤ v) → v < 128 ^ k → (A ++ P ++ vintN k v ++ C).length ≤ 1000000 →
    Go.L.run (wire_ReadNumber_bl2 (A ++ P ++ vintN k v ++ C) (A.length : Int)) ((acc : Int), (i : Int)) = some (unzz u, ((A.length + i + (vintN k v).length : Nat) : Int), (0, 0))
  | 0, i, v, acc, P, hi, hP, hacc, ha, hv0, hv, _ => by
    simp at hv;subst hv;omega
  | k + 1, i, v, acc, P, hi, hP, hacc, ha, hv0, hv, hlen => by
    have hpw : 0 < 2 ^ (7 * i) := Nat.pow_pos (by decide);have hpw2 : 2 ^ (7 * (i + 1)) = 2 ^ (7 * i) * 128 := by rw [Nat.mul_add, Nat.pow_add]
    have hcat : A ++ P ++ vintN (k + 1) v ++ C = (A ++ P) ++ (vintN (k + 1) v ++ C) := by rw [List.append_assoc]
    by_cases hc : 128 ≤ v
    · have hf : vintN (k + 1) v = UInt8.ofNat (v % 128 + 128) :: vintN k (v / 128) := by rw [vintN, if_pos hc]
      have hk : 1 ≤ k := by
        rcases Nat.eq_zero_or_pos k with h0 | h0
        · subst h0; simp at hv; omega
        · exact h0
      have hget : (A ++ P ++ vintN (k + 1) v ++ C).getD (A.length + i) default = UInt8.ofNat (v % 128 + 128) := by
        rw [hcat, hf, List.cons_append];have := getD_mid (A ++ P) (vintN k (v / 128) ++ C) (UInt8.ofNat (v % 128 + 128))
        rwa [List.length_append, hP] at this
      have hbl : A.length + i < (A ++ P ++ vintN (k + 1) v ++ C).length := by
        rw [hcat, hf]; simp only [List.length_append, List.length_cons]; omega
      have hnat : (UInt8.ofNat (v % 128 + 128)).toNat = v % 128 + 128 := by simp; omega
      have hsum : acc + (v % 128) * 2 ^ (7 * i) < 18446744073709551616 := by
        have h1 : v % 128 * 2 ^ (7 * i) ≤ v * 2 ^ (7 * i) := Nat.mul_le_mul_right _ (Nat.mod_le _ _);omega
      have hstep := rn_step hlen (a := A.length) (u := acc) (i := i) (by omega) (by
        have : acc ≤ u := by omega
        omega) hbl
      rw [hget, hnat, nu_add and127 ha hsum, if_neg (by omega), if_neg (by omega)] at hstep;rw [run_inl hstep];have h128 : v = v % 128 + 128 * (v / 128) := (Nat.mod_add_div v 128).symm
      have hmul : v * 2 ^ (7 * i) = v % 128 * 2 ^ (7 * i) + v / 128 * (2 ^ (7 * i) * 128) := by
        conv => lhs; rw [h128]
        rw [Nat.add_mul]
        congr 1
        rw [Nat.mul_comm 128, Nat.mul_assoc, Nat.mul_comm 128]
      have hacc2 : acc + v % 128 * 2 ^ (7 * i) < 2 ^ (7 * (i + 1)) := by
        rw [hpw2];have : v % 128 * 2 ^ (7 * i) ≤ 127 * 2 ^ (7 * i) := Nat.mul_le_mul_right _ (by omega);omega
      have ih := rn_at (A := A) (C := C) u hu k (i + 1) (v / 128) (acc + v % 128 * 2 ^ (7 * i)) (P ++ [UInt8.ofNat (v % 128 + 128)]) (by omega) (by rw [List.length_append, hP]; rfl) (by rw [hpw2, hacc, hmul]; omega) hacc2 (.inr (by omega)) (Nat.div_lt_of_lt_mul (by rw [Nat.pow_succ, Nat.mul_comm] at hv; exact hv)) (by rw [hf] at hlen; simpa using hlen);have e : A ++ (P ++ [UInt8.ofNat (v % 128 + 128)]) ++ vintN k (v / 128) ++ C = A ++ P ++ vintN (k + 1) v ++ C := by rw [hf]; simp
      rw [e] at ih;rw [ih, hf]
      congr 3
      simp only [List.length_cons];omega
    · have hf : vintN (k + 1) v = [UInt8.ofNat v] := by rw [vintN, if_neg hc]
      have hget : (A ++ P ++ vintN (k + 1) v ++ C).getD (A.length + i) default = UInt8.ofNat v := by
        rw [hcat, hf, List.singleton_append];have := getD_mid (A ++ P) C (UInt8.ofNat v)
        rwa [List.length_append, hP] at this
      have hbl : A.length + i < (A ++ P ++ vintN (k + 1) v ++ C).length := by
        rw [hcat, hf]; simp only [List.length_append, List.length_cons, List.length_nil]; omega
      have hnat : (UInt8.ofNat v).toNat = v := by simp; omega
      have h9 : i = 9 → v ≤ 1 := fun h => by
        subst h;have : v * 2 ^ 63 ≤ u := by omega
        omega
      have hstep := rn_step hlen (a := A.length) (u := acc) (i := i) (by omega) (by omega) hbl;rw [hget, hnat, nu_add (and127s (by omega)) ha (by omega), if_neg (by omega), if_pos (by omega), ← hacc] at hstep;rw [run_inr (m := some (unzz u, ((A.length + i + 1 : Nat) : Int), (0, 0))) hstep, hf]
      rfl
theorem rnum_at {A C : List UInt8} {a : Int} (h : I64 a) (hl : (A ++ (vint (zz a) ++ C)).length ≤ 1000000) : wire_ReadNumber (A ++ (vint (zz a) ++ C)) (A.length : Int) = some (a, ((A.length + (vint (zz a)).length : Nat) : Int), (0, 0)) := by
  unfold wire_ReadNumber;rw [if_neg (by omega), if_neg (by simp only [List.length_append]; omega)];have := rn_at (A := A) (C := C) (zz a) (zz_lt h) 10 0 (zz a) 0 [] (by omega) rfl (by simp) (by simp) (.inl rfl) (Nat.lt_trans (zz_lt h) (by decide)) (by simpa [vint] using hl);rw [unzz_zz] at this;have e : A ++ (vint (zz a) ++ C) = A ++ [] ++ vintN 10 (zz a) ++ C := by simp [vint]
  rw [e];exact this
theorem rchunk_at {A C s : List UInt8} (hs : s.length ≤ 1000000) (hl : (A ++ (chunkF s ++ C)).length ≤ 1000000) : wire_ReadChunk (A ++ (chunkF s ++ C)) (A.length : Int) = some (s, ((A.length + (chunkF s).length : Nat) : Int), (0, 0)) := by
  unfold wire_ReadChunk;have e : A ++ (chunkF s ++ C) = A ++ (vint (zz (s.length : Int)) ++ (s ++ C)) := by unfold chunkF; simp
  rw [e] at hl ⊢;rw [rnum_at (by unfold I64; omega) hl, Option.bind_some];dsimp only;have hlen : (A ++ (vint (zz (s.length : Int)) ++ (s ++ C))).length = A.length + (vint (zz (s.length : Int))).length + s.length + C.length := by simp only [List.length_append]; omega
  have hd : ((A ++ (vint (zz (s.length : Int)) ++ (s ++ C))).drop (A.length + (vint (zz (s.length : Int))).length)).take s.length = s := by
    rw [← List.append_assoc, List.drop_append_of_le_length (by simp), List.drop_eq_nil_of_le (by simp), List.nil_append, List.take_left' rfl]
  rw [if_pos ⟨rfl, rfl⟩, if_neg (by omega), chk_pos (by unfold I64; omega), if_neg (by rw [hlen]; omega), chk_pos (by unfold I64; omega), chk_pos (by rw [hlen]; omega)];rw [chk_pos (by unfold Go.E.Cap; simp only [List.length_take, List.length_drop, List.length_nil]; omega), chk_pos (by unfold I64; omega), List.nil_append];simp only [Int.toNat_natCast];rw [show ((((A.length + (vint (zz (s.length : Int))).length : Nat) : Int) + (s.length : Int)).toNat - (A.length + (vint (zz (s.length : Int))).length)) = s.length by omega, hd]
  congr 3
  unfold chunkF;rw [List.length_append];omega
theorem rnums_at {B A C : List UInt8} {l : List Int} {x2 : Int × Int × (Int × Int)} (hx : x2.1 = (l.length : Int)) (h : ∀ z ∈ l, I64 z) (hl : B.length ≤ 1000000) : ∀ (k j : Nat), j + k = l.length → B = (A ++ (l.take j).flatMap (fun i => vint (zz i))) ++ ((l.drop j).flatMap (fun i => vint (zz i)) ++ C) →
    Go.L.run (wreads_Number_bl2 B x2) (l.take j, ((A ++ (l.take j).flatMap (fun i => vint (zz i))).length : Int), (j : Int)) = some (l, ((A ++ l.flatMap (fun i => vint (zz i))).length : Int), (0, 0))
  | 0, j, hj, hB => by
    rw [List.take_of_length_le (by omega)];refine run_inr (m := some (l, ((A ++ l.flatMap (fun i => vint (zz i))).length : Int), (0, 0))) ?_;unfold wreads_Number_bl2 wreads_Number_k1;dsimp only;rw [if_neg (by omega)]
  | k + 1, j, hj, hB => by
    have hjl : j < l.length := by omega
    have hl9 : l.length ≤ 1000000 := by
      have h1 : l.length ≤ (l.flatMap fun i => vint (zz i)).length := by
        clear hx h hB hj hjl
        induction l with
        | nil => simp
        | cons z l ih =>
          have : 1 ≤ (vint (zz z)).length := by unfold vint vintN; split <;> simp
          rw [List.flatMap_cons, List.length_append, List.length_cons]; omega
      have h2 : l.flatMap (fun i => vint (zz i)) = (l.take j).flatMap (fun i => vint (zz i)) ++ (l.drop j).flatMap (fun i => vint (zz i)) := by rw [← List.flatMap_append, List.take_append_drop]
      have h3 := congrArg List.length hB;rw [h2, List.length_append] at h1;simp only [List.length_append] at h3;omega
    have hB2 : B = (A ++ (l.take j).flatMap (fun i => vint (zz i))) ++ (vint (zz (l.getD j default)) ++ ((l.drop (j + 1)).flatMap (fun i => vint (zz i)) ++ C)) := by
      rw [drop_cons hjl, List.flatMap_cons] at hB; rw [hB]; simp only [List.append_assoc]
    have hr := rnum_at (A := A ++ (l.take j).flatMap (fun i => vint (zz i))) (C := (l.drop (j + 1)).flatMap (fun i => vint (zz i)) ++ C) (h _ (getD_mem hjl)) (by rw [← hB2]; exact hl);rw [← hB2] at hr;have htk : l.take (j + 1) = l.take j ++ [l.getD j default] := by rw [List.take_add_one, List.getElem?_eq_getElem hjl]; simp [List.getD_eq_getElem?_getD, List.getElem?_eq_getElem hjl]
    have hpos : ((A ++ (l.take (j + 1)).flatMap (fun i => vint (zz i))).length : Int) = (((A ++ (l.take j).flatMap (fun i => vint (zz i))).length + (vint (zz (l.getD j default))).length : Nat) : Int) := by
      rw [take_succ_flatMap _ hjl, ← List.append_assoc, List.length_append]
    have hs : wreads_Number_bl2 B x2 (l.take j, ((A ++ (l.take j).flatMap (fun i => vint (zz i))).length : Int), (j : Int)) = some (.inl (l.take (j + 1), ((A ++ (l.take (j + 1)).flatMap (fun i => vint (zz i))).length : Int), ((j + 1 : Nat) : Int))) := by
      unfold wreads_Number_bl2;dsimp only;rw [if_pos (by omega), hr, Option.bind_some];dsimp only;rw [if_pos ⟨rfl, rfl⟩, chk_pos (by unfold Go.E.Cap; simp only [List.length_take, List.length_cons, List.length_nil]; omega), chk_pos (by unfold I64; omega), hpos, htk]
      rfl
    rw [run_inl hs]
    exact rnums_at (A := A) (C := C) hx h hl k (j + 1) (by omega) (by
      rw [take_succ_flatMap _ hjl];rw [hB2];simp)
theorem ritems_at {A C : List UInt8} {l : List Int} {most : Int} (h : ∀ z ∈ l, I64 z) (hm : (l.length : Int) ≤ most) (hll : l.length ≤ 1000000) (hl : (A ++ (itemsF l ++ C)).length ≤ 1000000) : wreads_Number (A ++ (itemsF l ++ C)) (A.length : Int) most = some (l, ((A.length + (itemsF l).length : Nat) : Int), (0, 0)) := by
  unfold wreads_Number;have e : A ++ (itemsF l ++ C) = A ++ (vint (zz (l.length : Int)) ++ (l.flatMap (fun i => vint (zz i)) ++ C)) := by unfold itemsF; simp
  rw [e] at hl ⊢;rw [rnum_at (by unfold I64; omega) hl, Option.bind_some];dsimp only;rw [if_pos ⟨rfl, rfl⟩, if_neg (by omega)];have := rnums_at (B := A ++ (vint (zz (l.length : Int)) ++ (l.flatMap (fun i => vint (zz i)) ++ C))) (A := A ++ vint (zz (l.length : Int))) (C := C) (l := l) (x2 := ((l.length : Int), ((A.length + (vint (zz (l.length : Int))).length : Nat) : Int), (0, 0))) rfl h hl l.length 0 (by omega) (by simp);rw [List.take_zero, List.flatMap_nil, List.append_nil] at this;unfold wreads_Number_l2;have e2 : ((A ++ vint (zz (l.length : Int))).length : Int) = ((A.length + (vint (zz (l.length : Int))).length : Nat) : Int) := by rw [List.length_append]
  rw [e2] at this;refine this.trans ?_
  congr 3
  unfold itemsF;simp only [List.length_append];omega
theorem rentry_at {A C : List UInt8} {e : En} (h : EnS e) (h64 : e.2.length ≤ 64) (hl : (A ++ (lform e ++ C)).length ≤ 1000000) : shapes_readEntry (A ++ (lform e ++ C)) (A.length : Int) = some (e, ((A.length + (lform e).length : Nat) : Int), (0, 0)) := by
  obtain ⟨p1, p2, p3, p4, p5, p6⟩ := h
  have hll : (lform e).length = (chunkF e.1.1).length + (vint (zz e.1.2.1)).length + (vint (zz e.1.2.2.1)).length + (chunkF e.1.2.2.2).length + (itemsF e.2).length := by
    unfold lform; simp only [List.flatten_cons, List.flatten_nil, List.length_append, List.length_nil]; omega
  have hc1 : e.1.1.length ≤ (chunkF e.1.1).length := by unfold chunkF; simp
  have hc2 : e.1.2.2.2.length ≤ (chunkF e.1.2.2.2).length := by unfold chunkF; simp
  simp only [List.length_append] at hl;have d1 : A ++ (lform e ++ C) = A ++ (chunkF e.1.1 ++ (vint (zz e.1.2.1) ++ (vint (zz e.1.2.2.1) ++ (chunkF e.1.2.2.2 ++ (itemsF e.2 ++ C))))) := by unfold lform; simp
  have d2 : A ++ (lform e ++ C) = (A ++ chunkF e.1.1) ++ (vint (zz e.1.2.1) ++ (vint (zz e.1.2.2.1) ++ (chunkF e.1.2.2.2 ++ (itemsF e.2 ++ C)))) := by rw [d1]; simp
  have d3 : A ++ (lform e ++ C) = (A ++ chunkF e.1.1 ++ vint (zz e.1.2.1)) ++ (vint (zz e.1.2.2.1) ++ (chunkF e.1.2.2.2 ++ (itemsF e.2 ++ C))) := by rw [d1]; simp
  have d4 : A ++ (lform e ++ C) = (A ++ chunkF e.1.1 ++ vint (zz e.1.2.1) ++ vint (zz e.1.2.2.1)) ++ (chunkF e.1.2.2.2 ++ (itemsF e.2 ++ C)) := by rw [d1]; simp
  have d5 : A ++ (lform e ++ C) = (A ++ chunkF e.1.1 ++ vint (zz e.1.2.1) ++ vint (zz e.1.2.2.1) ++ chunkF e.1.2.2.2) ++ (itemsF e.2 ++ C) := by rw [d1]; simp
  have r1 := rchunk_at (A := A) (s := e.1.1) (by omega) (by rw [← d1]; simp only [List.length_append]; omega);rw [← d1] at r1;have r2 := rnum_at (A := A ++ chunkF e.1.1) p2 (by rw [← d2]; simp only [List.length_append]; omega);rw [← d2] at r2;have r3 := rnum_at (A := A ++ chunkF e.1.1 ++ vint (zz e.1.2.1)) p3 (by rw [← d3]; simp only [List.length_append]; omega);rw [← d3] at r3;have r4 := rchunk_at (A := A ++ chunkF e.1.1 ++ vint (zz e.1.2.1) ++ vint (zz e.1.2.2.1)) (s := e.1.2.2.2) (by omega) (by rw [← d4]; simp only [List.length_append]; omega);rw [← d4] at r4;have r5 := ritems_at (A := A ++ chunkF e.1.1 ++ vint (zz e.1.2.1) ++ vint (zz e.1.2.2.1) ++ chunkF e.1.2.2.2) (l := e.2) (most := 64) p5 (by omega) (by omega) (by rw [← d5]; simp only [List.length_append]; omega);rw [← d5] at r5;simp only [List.length_append] at r2 r3 r4 r5;generalize A ++ (lform e ++ C) = B at *;unfold shapes_readEntry;rw [r1, Option.bind_some]; dsimp only; rw [if_pos ⟨rfl, rfl⟩];rw [r2, Option.bind_some]; dsimp only; rw [if_pos ⟨rfl, rfl⟩];rw [r3, Option.bind_some]; dsimp only; rw [if_pos ⟨rfl, rfl⟩];rw [r4, Option.bind_some]; dsimp only; rw [if_pos ⟨rfl, rfl⟩];rw [r5, Option.bind_some]; dsimp only; rw [if_pos ⟨rfl, rfl⟩]
  congr 3
  omega
theorem rentries_at {B A C : List UInt8} {l : List En} {x2 : Int × Int × (Int × Int)} (hx : x2.1 = (l.length : Int)) (h : ∀ z ∈ l, EnS z ∧ z.2.length ≤ 64) (hll : l.length ≤ 1000000) (hl : B.length ≤ 1000000) : ∀ (k j : Nat), j + k = l.length → B = (A ++ (l.take j).flatMap lform) ++ ((l.drop j).flatMap lform ++ C) →
    Go.L.run (wreads_entry_bl2 B x2) (l.take j, ((A ++ (l.take j).flatMap lform).length : Int), (j : Int)) = some (l, ((A ++ l.flatMap lform).length : Int), (0, 0))
  | 0, j, hj, hB => by
    rw [List.take_of_length_le (by omega)];refine run_inr (m := some (l, ((A ++ l.flatMap lform).length : Int), (0, 0))) ?_;unfold wreads_entry_bl2 wreads_entry_k1;dsimp only;rw [if_neg (by omega)]
  | k + 1, j, hj, hB => by
    have hjl : j < l.length := by omega
    have hB2 : B = (A ++ (l.take j).flatMap lform) ++ (lform (l.getD j default) ++ ((l.drop (j + 1)).flatMap lform ++ C)) := by
      rw [drop_cons hjl, List.flatMap_cons] at hB; rw [hB]; simp only [List.append_assoc]
    have hr := rentry_at (A := A ++ (l.take j).flatMap lform) (C := (l.drop (j + 1)).flatMap lform ++ C) (h _ (getD_mem hjl)).1 (h _ (getD_mem hjl)).2 (by rw [← hB2]; exact hl);rw [← hB2] at hr;have htk : l.take (j + 1) = l.take j ++ [l.getD j default] := by rw [List.take_add_one, List.getElem?_eq_getElem hjl]; simp [List.getD_eq_getElem?_getD, List.getElem?_eq_getElem hjl]
    have hpos : ((A ++ (l.take (j + 1)).flatMap lform).length : Int) = (((A ++ (l.take j).flatMap lform).length + (lform (l.getD j default)).length : Nat) : Int) := by
      rw [take_succ_flatMap _ hjl, ← List.append_assoc, List.length_append]
    have hs : wreads_entry_bl2 B x2 (l.take j, ((A ++ (l.take j).flatMap lform).length : Int), (j : Int)) = some (.inl (l.take (j + 1), ((A ++ (l.take (j + 1)).flatMap lform).length : Int), ((j + 1 : Nat) : Int))) := by
      unfold wreads_entry_bl2;dsimp only;rw [if_pos (by omega), hr, Option.bind_some];dsimp only;rw [if_pos ⟨rfl, rfl⟩, chk_pos (by unfold Go.E.Cap; simp only [List.length_take, List.length_cons, List.length_nil]; omega), chk_pos (by unfold I64; omega), hpos, htk]
      rfl
    rw [run_inl hs]
    exact rentries_at (A := A) (C := C) hx h hll hl k (j + 1) (by omega) (by
      rw [take_succ_flatMap _ hjl];rw [hB2];simp)
/-- A good form opens. -/
theorem open_good {n : Int} {es : List En} (hG : GI n es) (h64 : ∀ e ∈ es, e.2.length ≤ 64) (hl : (iform n es).length ≤ 16384) (hcnt : es.length ≤ (iform n es).length) : shapes_Open (iform n es) = some ((n, es), (0, 0)) := by
  have n0 := hG.n0;have n64 := hG.n64;have hn : I64 n := by unfold I64; omega
  have hlE : I64 (es.length : Int) := by have := hG.len; unfold I64; omega
  have d0 : iform n es = [] ++ (vint (zz n) ++ (vint (zz (es.length : Int)) ++ es.flatMap lform)) := rfl;have r1 := rnum_at (A := []) (C := vint (zz (es.length : Int)) ++ es.flatMap lform) hn (by rw [← d0]; omega);rw [← d0] at r1;have d1 : iform n es = vint (zz n) ++ (vint (zz (es.length : Int)) ++ (es.flatMap lform)) := rfl;have r2 := rnum_at (A := vint (zz n)) (C := es.flatMap lform) hlE (by rw [← d1]; omega);rw [← d1] at r2;have r3 := rentries_at (B := iform n es) (A := vint (zz n) ++ vint (zz (es.length : Int))) (C := []) (l := es) (x2 := ((es.length : Int), (((vint (zz n)).length + (vint (zz (es.length : Int))).length : Nat) : Int), (0, 0))) rfl (fun e he => ⟨hG.sz e he, h64 e he⟩) hG.len (by omega) es.length 0 (by omega) (by rw [d1]; simp);rw [List.take_zero, List.flatMap_nil, List.append_nil] at r3
  have hr : wreads_entry (iform n es) ((vint (zz n)).length : Int) ((iform n es).length : Int) = some (es, ((vint (zz n) ++ vint (zz (es.length : Int)) ++ es.flatMap lform).length : Int), (0, 0)) := by
    unfold wreads_entry;rw [r2, Option.bind_some];dsimp only;rw [if_pos ⟨rfl, rfl⟩, if_neg (by omega)];unfold wreads_entry_l2;have e2 : ((vint (zz n) ++ vint (zz (es.length : Int))).length : Int) = (((vint (zz n)).length + (vint (zz (es.length : Int))).length : Nat) : Int) := by rw [List.length_append]
    rw [e2] at r3;exact r3
  unfold shapes_Open shapes_fault;simp only [List.length_nil, Nat.zero_add] at r1;have r1' : wire_ReadNumber (iform n es) 0 = some (n, ((vint (zz n)).length : Int), (0, 0)) := r1;rw [if_neg (by omega), Option.bind_some, r1', Option.bind_some];dsimp only
  rw [if_neg (by have h1 : ¬ n < 0 := by omega
                 have h2 : ¬ 64 < n := by omega
                 simp [h1, h2]), hr, Option.bind_some]
  dsimp only;rw [if_pos ⟨rfl, rfl⟩];unfold shapes_Open_l4;generalize hx14 : (n, ((vint (zz n)).length : Int), ((0 : Int), (0 : Int))) = x14;generalize hx39 : (es, ((vint (zz n) ++ vint (zz (es.length : Int)) ++ es.flatMap lform).length : Int), ((0 : Int), (0 : Int))) = x39;have h14 : x14.1 = n := by rw [← hx14]
  have h39 : x39.1 = es := by rw [← hx39]
  refine run_count (fun i => ((i : Nat) : Int)) es.length (fun i hi => ?_) ?_ 0 (Nat.zero_le _)
  · obtain ⟨c, hv, hc⟩ := valid_ex (es.getD i default) n (hG.sz _ (getD_mem hi)).2.2.2.2.2;have hct := hc.2 (hG.ev _ (getD_mem hi));subst hct;have e0 : ∀ x : En, shapes_entry_valid ((x.1.1, x.1.2.1, x.1.2.2.1, x.1.2.2.2), x.2) = shapes_entry_valid x := fun _ => rfl;unfold shapes_Open_bl4;rw [h14, h39, if_pos (by omega), chk_pos (by omega), Int.toNat_natCast, e0, hv, Option.bind_some, if_neg (by decide)]
    by_cases h0 : 0 < i
    · rw [if_pos (by omega), chk_pos (by unfold I64; omega), chk_pos (by omega), show ((i : Int) - 1).toNat = i - 1 by omega]
      show (shapes_leaf_compare (es.getD i default).1 (es.getD (i - 1) default).1).bind _ = _
      have hlt : lfCmp (es.getD (i - 1) default).1 (es.getD i default).1 < 0 := by
        have := List.pairwise_iff_getElem.1 hG.inc (i - 1) i (by omega) hi (by omega)
        simpa [List.getD_eq_getElem?_getD, List.getElem?_eq_getElem hi, List.getElem?_eq_getElem (show i - 1 < es.length by omega)] using this
      have hsw := ordLf.swap (es.getD i default).1 (es.getD (i - 1) default).1;rw [compare_eq, Option.bind_some, if_neg (by omega), chk_pos (by unfold I64; omega)]
      rfl
    · rw [if_neg (by omega), chk_pos (by unfold I64; omega)]
      rfl
  · unfold shapes_Open_bl4 shapes_Open_k3 bytes_Equal;rw [h14, h39, if_neg (by omega), bytes_eq hn hG.len hG.sz, Option.bind_some, Option.bind_some, if_neg (by simp)]
end Go.Proofs.YtmfiaecglndldaaGreatDoor
end
section
namespace Go.Proofs.YtmfiaecglndldaaGreatDoor
open Go Go.E Go.RowKit
set_option maxHeartbeats 1000000
set_option maxRecDepth 10000
open _root_.Go.Proofs.Tryz
noncomputable def shapes_Paths (a0 : Go.L.Pv) : Option ((List (List UInt8)) × (Int × Int)) :=
 Option.bind (value_Validate a0) (fun x3 => if x3.1 = (0 : Int) ∧ x3.2 = (0 : Int) then Option.bind (shapes_leaves pathStep a0 ([] : List (List UInt8)) ([] : List (List UInt8))) (fun x18 => Go.L.chk (x18.length < 4611686018427387904) (Go.L.chk ((srtS x18).length ≤ 9223372036854775807) (some ((Lib.compact (srtS x18)), ((0 : Int), (0 : Int)))))) else some ([], (x3.1, x3.2)))
theorem shapes_Paths_ok (w : World) (H : PH) (hH : Le H (hp w)) {a0 : Go.L.Pv} {v0_0 : Value} {v0_1 : Value} {v0_2 : Value} (h0_0 : Vec .byte H v0_0 (a0.f.2.2.1)) (h0_1 : Vec .st H v0_1 (a0.f.2.2.2.1)) (h0_2 : Vec .tree H v0_2 (a0.f.2.2.2.2)) {r : (List (List UInt8)) × (Int × Int)} (h : shapes_Paths a0 = some r) :
  Ok Tryz.prog 21 [.agg #[.int .i64 a0.f.1, .int .i64 a0.f.2.1, v0_0, v0_1, v0_2]] w (fun v w' => Ext w w' ∧ ∃ u0, v = .tuple #[u0, .agg #[.int .i64 r.2.1, .int .i64 r.2.2]] ∧ OwnH 9 .st H w w' u0 (r.1)) := by
 refine Ok_enter (n := 20) [(0, .agg #[.int .i64 a0.f.1, .int .i64 a0.f.2.1, v0_0, v0_1, v0_2])] func21 rfl rfl rfl rfl rfl ?_;have hL := Lcl.start w;refine W_seqr ?_;refine S_box (t := 38) rfl rfl rfl hL ?_;intro w1 b1 hL1 hle1 _;refine S_pu 1 rfl ?_;refine S_alloc zr23 rfl rfl hL1 ?_;intro w2 b2 hL2 hle2 _;refine S_seqnil ?_;refine W_seq ?_;refine W_seqr ?_;refine S_v (r_loadBN 1 rfl underlying38 rfl zr38 hL2 rfl) rfl ?_;obtain ⟨x3, hb3, h⟩ := Go.L.bind_some h;refine S_callL rfl rfl hL2 (value_Validate_ok (a0 := a0) _ _ (gz_le hH hL2) (h0_0.mono (gz_left hH)) (h0_1.mono (gz_left hH)) (h0_2.mono (gz_left hH)) hb3) ?_;rintro _ w4 rfl hx4 hL4 hle4;refine S_alloc zr23 rfl rfl hL4 ?_;intro w5 b5 hL5 hle5 _;refine S_storeBN 0 rfl rfl rfl zr23 hL5 rfl rfl (onc rfl (onc rfl on0)) ?_;intro w6 hL6 hle6;refine S_seqnil ?_;refine W_seqr ?_;refine S_v (r_loadBN 0 rfl underlying23 rfl zr23 hL6 rfl) rfl ?_;refine S_v (r_build rfl (fun _ => bld23_z _)) rfl ?_;refine S_v (r_neA rfl rfl eqg23 (eq23 _ _ _ _ )) rfl ?_;refine S_seqnil ?_;refine W_ifn rfl (fun hc7 => ?_) (fun hc7 => ?_)
 ·replace h := Go.L.ite_n hc7 h;refine W_seqd (.q 0 (.q 1 (.tail 2))) mixed (by kernel_rfl) (fun w9 hx9 => ?_);have hL10 := hL6.call hx9;refine D_v (r_loadBN 0 rfl underlying23 rfl zr23 hL10 rfl) rfl rfl ?_;refine D_pu 1 rfl ?_;refine D_tail (fun w11 hx11 => ?_);have hL12 := hL10.call hx11;refine S_storeBN 1 rfl rfl rfl zr23 hL12 rfl rfl (onc rfl (onc rfl on0)) ?_;intro w13 hL13 hle13;refine S_seqnil ?_;refine W_ret ?_;refine At_seq_ret ?_;obtain rfl := Option.some.inj h;refine At_got2 rfl (.tmp rfl) (.cell rfl underlying23 rfl zr23 (box_ptr (i := 1) hL13 rfl)) ?_;exact ⟨hL13.ext, _, rfl, OwnH.nil⟩
 ·replace h := Go.L.ite_p hc7 h;refine W_skip ?_;refine At_seq ?_;refine W_seqr ?_;refine S_alloc zr30 rfl rfl hL6 ?_;intro w15 b15 hL15 hle15 _;refine S_seqnil ?_;refine W_seqr ?_;refine S_v (r_loadBN 3 rfl underlying38 rfl zr38 hL15 rfl) rfl ?_;refine S_pu 1 rfl ?_;obtain ⟨hL16, hle16, he16⟩ := row_nilE .st H 9 hL15;have hL17 : Lcl w [.box b15 [.slice none 0 0] 30, .row (.slice none 0 0) 9 1 (([] : List (List UInt8))).length ([]), .box b5 [.int .i64 x3.1, .int .i64 x3.2] 23, .box b2 [.int .i64 (0 : Int), .int .i64 (0 : Int)] 23, .box b1 [.int .i64 a0.f.1, .int .i64 a0.f.2.1, v0_0, v0_1, v0_2] 38] w15 := hL16.picks [1] rfl;have hle17 := fz_picks [1] hL16 hL17 rfl;replace he16 := he16.mono (gz_mono hH hle17);obtain ⟨x18, hb18, h⟩ := Go.L.bind_some h;refine S_call rfl rfl (leaves_paths hH (O := [.box b5 [.int .i64 x3.1, .int .i64 x3.2] 23, .box b2 [.int .i64 (0 : Int), .int .i64 (0 : Int)] 23, .box b1 [.int .i64 a0.f.1, .int .i64 a0.f.2.1, v0_0, v0_1, v0_2] 38]) (a0 := a0) (a1 := ([] : List (List UInt8))) (s := ([] : List (List UInt8))) hL17 he16 (h0_0.mono (gz_left hH)) (h0_1.mono (gz_left hH)) (h0_2.mono (gz_left hH)) (Vec.nil _ _) hb18) ?_;rintro _ w19 ⟨rfl, u19, y19, hL19, hle19, he19⟩;refine S_seqnil ?_;refine W_seqr ?_;refine S_v (r_loadB1 0 rfl underlying30 rfl hL19 rfl rfl) rfl ?_;obtain ⟨hk21, h⟩ := Go.L.chk_some h;refine S_sortS (i := 1) Tryz.laySS rfl ⟨Tryz.f53, _, func53, rfl, rfl⟩ rfl rfl hH hL19 rfl he19 hk21 ?_;intro w20 xs20 hL20 hle20 he20;refine S_seqnil ?_
  refine W_seqr ?_;refine S_v (r_loadB1 0 rfl underlying30 rfl hL20 rfl rfl) rfl ?_;obtain ⟨hk23, h⟩ := Go.L.chk_some h;refine S_compS (i := 1) Tryz.layCS rfl ⟨Tryz.f54, _, func54, rfl, rfl⟩ rfl rfl hH hL20 rfl he20 hk23 ?_;intro v22 w22 xs22 hL22 hle22 he22;refine S_v (r_build rfl (fun _ => bld23_z _)) rfl ?_;refine S_pu 1 rfl ?_;refine S_storeBN 3 rfl rfl rfl zr23 hL22 rfl rfl (onc rfl (onc rfl on0)) ?_;intro w24 hL24 hle24;replace he22 := he22.mono (gz_mono hH hle24);refine S_seqnil ?_;refine W_ret ?_;obtain rfl := Option.some.inj h;refine At_got2 rfl (.tmp rfl) (.cell rfl underlying23 rfl zr23 (box_ptr (i := 3) hL24 rfl)) ?_;exact ⟨hL24.ext, _, rfl, (hL24.ownH hH (i := 1) rfl he22)⟩
end Go.Proofs.YtmfiaecglndldaaGreatDoor
end
section
namespace Go.Proofs.YtmfiaecglndldaaGreatDoor
open Go Go.E Go.RowKit
set_option maxHeartbeats 1000000
set_option maxRecDepth 10000
open _root_.Go.Proofs.Tryz
noncomputable def law4_shaped : Option (Bool) :=
 Option.bind (shapes_Match ([42, 42, 47, 99] : List UInt8) ([97, 47, 98, 47, 99] : List UInt8)) (fun x1 => Option.bind (shapes_Match ([42, 47, 99] : List UInt8) ([97, 47, 98, 47, 99] : List UInt8)) (fun x5 => Option.bind (law4_record (5 : Int)) (fun x9 => Option.bind (shapes_Paths x9) (fun x11 => Option.bind (law4_number (5 : Int)) (fun x15 => Option.bind (law4_record (5 : Int)) (fun x17 => Option.bind (shapes_Build ([x15, x17])) (fun x20 => Option.bind (shapes_Index_Number (x20.1.1, x20.1.2) ([97] : List UInt8) (1 : Int) (5 : Int)) (fun x26 => Option.bind (shapes_Index_Find (x20.1.1, x20.1.2) ([42, 42] : List UInt8)) (fun x31 => Option.bind (shapes_Index_Text (x20.1.1, x20.1.2) ([97] : List UInt8) ([])) (fun x35 => Option.bind (shapes_Open ([(0 : UInt8), (0 : UInt8)])) (fun x40 => if x1.2.1 = (0 : Int) then if x5.2.1 = (0 : Int) then if x11.2.1 = (0 : Int) then if x20.2.1 = (0 : Int) then if x26.2.1 = (0 : Int) then if x31.2.1 = (0 : Int) then if x35.2.1 = (0 : Int) then if x40.2.1 = (0 : Int) then (if (bif x1.1 then !x5.1 else false) then Option.bind (ref4_Texts x11.1 ([([] : List UInt8), ([97] : List UInt8)])) (fun x74 => if x74 then Option.bind (ref3_Ints x26.1 ([(1 : Int)])) (fun x79 => if x79 then Option.bind (ref3_Ints x31.1 ([(0 : Int), (1 : Int)])) (fun x84 => if x84 then if (x35.1.length : Int) = (0 : Int) then Option.bind (shapes_Index_Items (x40.1.1, x40.1.2)) (fun x90 => if x90 = (0 : Int) then Option.bind (shapes_Check ([97, 47, 47, 98] : List UInt8)) (fun x94 => Option.bind (ref3_At (1 : Int) (2 : Int)) (fun x96 => some (decide (x94.1 = x96.1 ∧ x94.2 = x96.2)))) else some (false)) else some (false) else some (false)) else some (false)) else some (false)) else some (false)) else some (false) else some (false) else some (false) else some (false) else some (false) else some (false) else some (false) else some (false))))))))))))
theorem law4_shaped_ok (w : World) (H : PH) (hH : Le H (hp w))    {r : Bool} (h : law4_shaped = some r) :
  Ok Tryz.prog 14 [] w (fun v w' => Ext w w' ∧ v = .bool r) := by
 refine Ok_enter (n := 130) [] func14 rfl rfl rfl rfl rfl ?_;have hL := Lcl.start w;refine W_pz 1 rfl ?_;refine W_seqr ?_;obtain ⟨x1, hb1, h⟩ := Go.L.bind_some h;refine S_callL rfl rfl hL (shapes_Match_ok _ _ (gz_le hH hL) hb1) ?_;rintro _ w2 rfl hx2 hL2 hle2;refine S_pu 3 rfl ?_;refine S_alloc zr23 rfl rfl hL2 ?_;intro w3 b3 hL3 hle3 _;refine S_pu 1 rfl ?_;refine S_storeBN 0 rfl rfl rfl zr23 hL3 rfl rfl (onc rfl (onc rfl on0)) ?_;intro w4 hL4 hle4;refine S_seqnil ?_;refine W_seqr ?_;obtain ⟨x5, hb5, h⟩ := Go.L.bind_some h;refine S_callL rfl rfl hL4 (shapes_Match_ok _ _ (gz_le hH hL4) hb5) ?_;rintro _ w6 rfl hx6 hL6 hle6;refine S_pu 3 rfl ?_;refine S_alloc zr23 rfl rfl hL6 ?_;intro w7 b7 hL7 hle7 _;refine S_pu 1 rfl ?_;refine S_storeBN 0 rfl rfl rfl zr23 hL7 rfl rfl (onc rfl (onc rfl on0)) ?_;intro w8 hL8 hle8;refine S_seqnil ?_;refine W_seqr ?_;obtain ⟨x9, hb9, h⟩ := Go.L.bind_some h;refine S_callL rfl rfl hL8 (law4_record_ok _ _ (gz_le hH hL8) hb9) ?_;rintro _ w10 ⟨u10_0, u10_1, u10_2, rfl, hR10_0, hR10_1, hR10_2⟩ hx10 hL10 hle10;have hv10_0 := hR10_0.vecG hH hL8 hx10;have hv10_1 := hR10_1.mono (gz_nw hH hL8 hx10);have hv10_2 := hR10_2.mono (gz_nw hH hL8 hx10);obtain ⟨x11, hb11, h⟩ := Go.L.bind_some h;refine S_callL rfl rfl hL10 (shapes_Paths_ok (a0 := x9) _ _ (gz_le hH hL10) hv10_0 hv10_1 hv10_2 hb11) ?_;rintro _ w12 ⟨u12_0, rfl, hR12_0⟩ hx12 hL12 hle12;have hv12_0 := hR12_0.vecG hH hL10 hx12;replace hv10_0 := hv10_0.mono (gz_mono hH hle12)
 replace hv10_1 := hv10_1.mono (gz_mono hH hle12);replace hv10_2 := hv10_2.mono (gz_mono hH hle12);refine S_pu 3 rfl ?_;refine S_alloc zr23 rfl rfl hL12 ?_;intro w13 b13 hL13 hle13 _;replace hv10_0 := hv10_0.mono (gz_mono hH hle13);replace hv10_1 := hv10_1.mono (gz_mono hH hle13);replace hv10_2 := hv10_2.mono (gz_mono hH hle13);replace hv12_0 := hv12_0.mono (gz_mono hH hle13);refine S_pu 1 rfl ?_;refine S_storeBN 0 rfl rfl rfl zr23 hL13 rfl rfl (onc rfl (onc rfl on0)) ?_;intro w14 hL14 hle14;replace hv10_0 := hv10_0.mono (gz_mono hH hle14);replace hv10_1 := hv10_1.mono (gz_mono hH hle14);replace hv10_2 := hv10_2.mono (gz_mono hH hle14);replace hv12_0 := hv12_0.mono (gz_mono hH hle14);refine S_seqnil ?_;refine W_seqr ?_;obtain ⟨x15, hb15, h⟩ := Go.L.bind_some h;refine S_callL rfl rfl hL14 (law4_number_ok _ _ (gz_le hH hL14) hb15) ?_;rintro _ w16 ⟨u16_0, u16_1, u16_2, rfl, hR16_0, hR16_1, hR16_2⟩ hx16 hL16 hle16;have hv16_0 := hR16_0.vecG hH hL14 hx16;have hv16_1 := hR16_1.vecG hH hL14 hx16;have hv16_2 := hR16_2.vecG hH hL14 hx16;replace hv12_0 := hv12_0.mono (gz_mono hH hle16);obtain ⟨x17, hb17, h⟩ := Go.L.bind_some h;refine S_callL rfl rfl hL16 (law4_record_ok _ _ (gz_le hH hL16) hb17) ?_;rintro _ w18 ⟨u18_0, u18_1, u18_2, rfl, hR18_0, hR18_1, hR18_2⟩ hx18 hL18 hle18;have hv18_0 := hR18_0.vecG hH hL16 hx18;have hv18_1 := hR18_1.mono (gz_nw hH hL16 hx18);have hv18_2 := hR18_2.mono (gz_nw hH hL16 hx18);replace hv12_0 := hv12_0.mono (gz_mono hH hle18)
 replace hv16_0 := hv16_0.mono (gz_mono hH hle18);replace hv16_1 := hv16_1.mono (gz_mono hH hle18);replace hv16_2 := hv16_2.mono (gz_mono hH hle18);refine S_litE (r := .tree) (l := [x15, x17]) rfl (fun _ => bsl36_2 _ _ _ _ _ _ _ _ _ _ _) rfl (show 2 ≤ 9223372036854775807 by decide) hH hL18 (.c5 (Go.E.Rp.tree_close ⟨_, _, rfl, rfl, ⟨_, _, rfl, rfl, ⟨_, _, rfl, ⟨_, rfl, hv16_0⟩, ⟨_, _, rfl, ⟨_, rfl, hv16_1⟩, ⟨_, rfl, hv16_2⟩⟩⟩⟩⟩) (.c5 (Go.E.Rp.tree_close ⟨_, _, rfl, rfl, ⟨_, _, rfl, rfl, ⟨_, _, rfl, ⟨_, rfl, hv18_0⟩, ⟨_, _, rfl, ⟨_, rfl, hv18_1⟩, ⟨_, rfl, hv18_2⟩⟩⟩⟩⟩) .nil)) ?_;intro v19 w19 hx19 hL19 hle19 hv19;replace hv12_0 := hv12_0.mono (gz_mono hH hle19);replace hv16_0 := hv16_0.mono (gz_mono hH hle19);replace hv16_1 := hv16_1.mono (gz_mono hH hle19);replace hv16_2 := hv16_2.mono (gz_mono hH hle19);replace hv18_0 := hv18_0.mono (gz_mono hH hle19);replace hv18_1 := hv18_1.mono (gz_mono hH hle19);replace hv18_2 := hv18_2.mono (gz_mono hH hle19);obtain ⟨x20, hb20, h⟩ := Go.L.bind_some h;refine S_callL rfl rfl hL19 (shapes_Build_ok _ _ (gz_le hH hL19) hv19 hb20) ?_;rintro _ w21 ⟨u21_0, rfl, hR21_0⟩ hx21 hL21 hle21;have hv21_0 := hR21_0.mono (gz_nw hH hL19 hx21);replace hv12_0 := hv12_0.mono (gz_mono hH hle21);replace hv16_0 := hv16_0.mono (gz_mono hH hle21);replace hv16_1 := hv16_1.mono (gz_mono hH hle21);replace hv16_2 := hv16_2.mono (gz_mono hH hle21);replace hv18_0 := hv18_0.mono (gz_mono hH hle21);replace hv18_1 := hv18_1.mono (gz_mono hH hle21)
 replace hv18_2 := hv18_2.mono (gz_mono hH hle21);replace hv19 := hv19.mono (gz_mono hH hle21);refine S_pu 3 rfl ?_;refine S_alloc zr47 rfl rfl hL21 ?_;intro w22 b22 hL22 hle22 _;replace hv12_0 := hv12_0.mono (gz_mono hH hle22);replace hv16_0 := hv16_0.mono (gz_mono hH hle22);replace hv16_1 := hv16_1.mono (gz_mono hH hle22);replace hv16_2 := hv16_2.mono (gz_mono hH hle22);replace hv18_0 := hv18_0.mono (gz_mono hH hle22);replace hv18_1 := hv18_1.mono (gz_mono hH hle22);replace hv18_2 := hv18_2.mono (gz_mono hH hle22);replace hv19 := hv19.mono (gz_mono hH hle22);replace hv21_0 := hv21_0.mono (gz_mono hH hle22);refine S_alloc zr23 rfl rfl hL22 ?_;intro w23 b23 hL23 hle23 _;replace hv12_0 := hv12_0.mono (gz_mono hH hle23);replace hv16_0 := hv16_0.mono (gz_mono hH hle23);replace hv16_1 := hv16_1.mono (gz_mono hH hle23);replace hv16_2 := hv16_2.mono (gz_mono hH hle23);replace hv18_0 := hv18_0.mono (gz_mono hH hle23);replace hv18_1 := hv18_1.mono (gz_mono hH hle23);replace hv18_2 := hv18_2.mono (gz_mono hH hle23);replace hv19 := hv19.mono (gz_mono hH hle23);replace hv21_0 := hv21_0.mono (gz_mono hH hle23);refine S_storeBN 1 rfl rfl rfl zr47 hL23 rfl rfl (onc rfl (onc hv21_0.one on0)) ?_;intro w24 hL24 hle24;replace hv12_0 := hv12_0.mono (gz_mono hH hle24);replace hv16_0 := hv16_0.mono (gz_mono hH hle24);replace hv16_1 := hv16_1.mono (gz_mono hH hle24);replace hv16_2 := hv16_2.mono (gz_mono hH hle24);replace hv18_0 := hv18_0.mono (gz_mono hH hle24)
 replace hv18_1 := hv18_1.mono (gz_mono hH hle24);replace hv18_2 := hv18_2.mono (gz_mono hH hle24);replace hv19 := hv19.mono (gz_mono hH hle24);replace hv21_0 := hv21_0.mono (gz_mono hH hle24);refine S_storeBN 0 rfl rfl rfl zr23 hL24 rfl rfl (onc rfl (onc rfl on0)) ?_;intro w25 hL25 hle25;replace hv12_0 := hv12_0.mono (gz_mono hH hle25);replace hv16_0 := hv16_0.mono (gz_mono hH hle25);replace hv16_1 := hv16_1.mono (gz_mono hH hle25);replace hv16_2 := hv16_2.mono (gz_mono hH hle25);replace hv18_0 := hv18_0.mono (gz_mono hH hle25);replace hv18_1 := hv18_1.mono (gz_mono hH hle25);replace hv18_2 := hv18_2.mono (gz_mono hH hle25);replace hv19 := hv19.mono (gz_mono hH hle25);replace hv21_0 := hv21_0.mono (gz_mono hH hle25);refine S_seqnil ?_;refine W_seqr ?_;refine S_v (r_loadBN 1 rfl underlying47 rfl zr47 hL25 rfl) rfl ?_;obtain ⟨x26, hb26, h⟩ := Go.L.bind_some h;refine S_callL rfl rfl hL25 (shapes_Index_Number_ok (a0 := (x20.1.1, x20.1.2)) _ _ (gz_le hH hL25) hv21_0 hb26) ?_;rintro _ w27 ⟨u27_0, rfl, hR27_0⟩ hx27 hL27 hle27;have hv27_0 := hR27_0.vecG hH hL25 hx27;replace hv12_0 := hv12_0.mono (gz_mono hH hle27);replace hv21_0 := hv21_0.mono (gz_mono hH hle27);refine S_pu 3 rfl ?_;refine S_alloc zr23 rfl rfl hL27 ?_;intro w28 b28 hL28 hle28 _;replace hv12_0 := hv12_0.mono (gz_mono hH hle28);replace hv21_0 := hv21_0.mono (gz_mono hH hle28);replace hv27_0 := hv27_0.mono (gz_mono hH hle28);refine S_pu 1 rfl ?_
 refine S_storeBN 0 rfl rfl rfl zr23 hL28 rfl rfl (onc rfl (onc rfl on0)) ?_;intro w29 hL29 hle29;replace hv12_0 := hv12_0.mono (gz_mono hH hle29);replace hv21_0 := hv21_0.mono (gz_mono hH hle29);replace hv27_0 := hv27_0.mono (gz_mono hH hle29);refine S_seqnil ?_;have hG30 := hL29.rG H;refine W_seqr ?_;refine S_v (r_loadBN 2 rfl underlying47 rfl zr47 hL29 rfl) rfl ?_;obtain ⟨x31, hb31, h⟩ := Go.L.bind_some h;refine S_callL rfl rfl hL29 (shapes_Index_Find_ok (a0 := (x20.1.1, x20.1.2)) _ _ (gz_le hH hL29) (hv21_0.mono hG30) hb31) ?_;rintro _ w32 ⟨u32_0, rfl, hR32_0⟩ hx32 hL32 hle32;have hv32_0 := hR32_0.vecG hH hL29 hx32;replace hG30 := hG30.trans (gz_mono hH hle32);refine S_pu 3 rfl ?_;refine S_alloc zr23 rfl rfl hL32 ?_;intro w33 b33 hL33 hle33 _;replace hv32_0 := hv32_0.mono (gz_mono hH hle33);replace hG30 := hG30.trans (gz_mono hH hle33);refine S_pu 1 rfl ?_;refine S_storeBN 0 rfl rfl rfl zr23 hL33 rfl rfl (onc rfl (onc rfl on0)) ?_;intro w34 hL34 hle34;replace hv32_0 := hv32_0.mono (gz_mono hH hle34);replace hG30 := hG30.trans (gz_mono hH hle34);refine S_seqnil ?_;refine W_seqr ?_;refine S_v (r_loadBN 3 rfl underlying47 rfl zr47 hL34 rfl) rfl ?_;obtain ⟨x35, hb35, h⟩ := Go.L.bind_some h;refine S_callL rfl rfl hL34 (shapes_Index_Text_ok (a0 := (x20.1.1, x20.1.2)) _ _ (gz_le hH hL34) (hv21_0.mono hG30) (Vec.nil _ _) hb35) ?_;rintro _ w36 ⟨u36_0, rfl, hR36_0⟩ hx36 hL36 hle36;have hv36_0 := hR36_0.vecG hH hL34 hx36;replace hv32_0 := hv32_0.mono (gz_mono hH hle36)
 replace hG30 := hG30.trans (gz_mono hH hle36);refine S_pu 3 rfl ?_;refine S_alloc zr23 rfl rfl hL36 ?_;intro w37 b37 hL37 hle37 _;replace hv32_0 := hv32_0.mono (gz_mono hH hle37);replace hv36_0 := hv36_0.mono (gz_mono hH hle37);replace hG30 := hG30.trans (gz_mono hH hle37);refine S_pu 1 rfl ?_;refine S_storeBN 0 rfl rfl rfl zr23 hL37 rfl rfl (onc rfl (onc rfl on0)) ?_;intro w38 hL38 hle38;replace hv32_0 := hv32_0.mono (gz_mono hH hle38);replace hv36_0 := hv36_0.mono (gz_mono hH hle38);replace hG30 := hG30.trans (gz_mono hH hle38);refine S_seqnil ?_;refine W_seqr ?_;refine S_litE (r := .byte) (l := [(0 : UInt8), (0 : UInt8)]) rfl (fun _ => bsl35_2 _ _ _) rfl (show 2 ≤ 9223372036854775807 by decide) hH hL38 (.c1 rfl (.c1 rfl .nil)) ?_;intro v39 w39 hx39 hL39 hle39 hv39;replace hv32_0 := hv32_0.mono (gz_mono hH hle39);replace hv36_0 := hv36_0.mono (gz_mono hH hle39);replace hG30 := hG30.trans (gz_mono hH hle39);obtain ⟨x40, hb40, h⟩ := Go.L.bind_some h;refine S_callL rfl rfl hL39 (shapes_Open_ok _ _ (gz_le hH hL39) hv39 hb40) ?_;rintro _ w41 ⟨u41_0, rfl, hR41_0⟩ hx41 hL41 hle41;have hv41_0 := hR41_0.mono (gz_nw hH hL39 hx41);replace hv32_0 := hv32_0.mono (gz_mono hH hle41);replace hv36_0 := hv36_0.mono (gz_mono hH hle41);replace hv39 := hv39.mono (gz_mono hH hle41);replace hG30 := hG30.trans (gz_mono hH hle41);refine S_pu 3 rfl ?_;refine S_alloc zr47 rfl rfl hL41 ?_;intro w42 b42 hL42 hle42 _;replace hv32_0 := hv32_0.mono (gz_mono hH hle42)
 replace hv36_0 := hv36_0.mono (gz_mono hH hle42);replace hv39 := hv39.mono (gz_mono hH hle42);replace hv41_0 := hv41_0.mono (gz_mono hH hle42);replace hG30 := hG30.trans (gz_mono hH hle42);refine S_alloc zr23 rfl rfl hL42 ?_;intro w43 b43 hL43 hle43 _;replace hv32_0 := hv32_0.mono (gz_mono hH hle43);replace hv36_0 := hv36_0.mono (gz_mono hH hle43);replace hv39 := hv39.mono (gz_mono hH hle43);replace hv41_0 := hv41_0.mono (gz_mono hH hle43);replace hG30 := hG30.trans (gz_mono hH hle43);refine S_storeBN 1 rfl rfl rfl zr47 hL43 rfl rfl (onc rfl (onc hv41_0.one on0)) ?_;intro w44 hL44 hle44;replace hv32_0 := hv32_0.mono (gz_mono hH hle44);replace hv36_0 := hv36_0.mono (gz_mono hH hle44);replace hv39 := hv39.mono (gz_mono hH hle44);replace hv41_0 := hv41_0.mono (gz_mono hH hle44);replace hG30 := hG30.trans (gz_mono hH hle44);refine S_storeBN 0 rfl rfl rfl zr23 hL44 rfl rfl (onc rfl (onc rfl on0)) ?_;intro w45 hL45 hle45;replace hv32_0 := hv32_0.mono (gz_mono hH hle45);replace hv36_0 := hv36_0.mono (gz_mono hH hle45);replace hv39 := hv39.mono (gz_mono hH hle45);replace hv41_0 := hv41_0.mono (gz_mono hH hle45);replace hG30 := hG30.trans (gz_mono hH hle45);refine S_seqnil ?_;refine W_seq ?_;have hG46 := hL45.rG H;refine W_seqr ?_;refine S_v (r_field rfl underlying23 rfl zr3 (by decide)) rfl ?_;refine S_v (r_loadB1 9 rfl underlying3 rfl hL45 rfl rfl) rfl ?_;refine S_pu 2 rfl ?_;refine S_split (s := 60) rfl (fun hg47 => ?_) (fun hg47 => ?_)
 ·replace h := Go.L.ite_n (not_dec_t hg47) h
  iterate 3 refine S_unwanted rfl rfl hg47 rfl ?_
  refine S_v (r_pickT rfl hg47 rfl) rfl ?_;refine S_pu 1 rfl ?_
  iterate 3 refine S_unwanted rfl rfl rfl rfl ?_
  refine S_v (r_pickT rfl rfl rfl) rfl ?_;refine S_pu 1 rfl ?_
  iterate 3 refine S_unwanted rfl rfl rfl rfl ?_
  refine S_v (r_pickT rfl rfl rfl) rfl ?_;refine S_pu 1 rfl ?_
  iterate 3 refine S_unwanted rfl rfl rfl rfl ?_
  refine S_v (r_pickT rfl rfl rfl) rfl ?_;refine S_pu 1 rfl ?_
  iterate 3 refine S_unwanted rfl rfl rfl rfl ?_
  refine S_v (r_pickT rfl rfl rfl) rfl ?_;refine S_pu 1 rfl ?_
  iterate 3 refine S_unwanted rfl rfl rfl rfl ?_
  refine S_v (r_pickT rfl rfl rfl) rfl ?_;refine S_pu 1 rfl ?_
  iterate 3 refine S_unwanted rfl rfl rfl rfl ?_
  refine S_v (r_pickT rfl rfl rfl) rfl ?_;refine S_seqnil ?_;refine W_true rfl ?_;refine W_pz 1 rfl ?_;refine W_ret ?_;refine At_seq_ret ?_;obtain rfl := Option.some.inj h;refine At_body rfl rfl ?_;exact ⟨hL45.ext, rfl⟩
 ·replace h := Go.L.ite_p (not_dec_f hg47) h;refine S_guarded rfl rfl hg47 ?_;refine S_v (r_field rfl underlying23 rfl zr3 (by decide)) rfl ?_;refine S_guarded rfl rfl hg47 ?_;refine S_v (r_loadB1 8 rfl underlying3 rfl hL45 rfl rfl) rfl ?_;refine S_guarded rfl rfl hg47 ?_;refine S_v (RunsAt_pu rfl) rfl ?_;refine S_v (r_pickF rfl hg47 rfl) rfl ?_;refine S_pu 1 rfl ?_;refine S_split (s := 65) rfl (fun hg50 => ?_) (fun hg50 => ?_)
  ·replace h := Go.L.ite_n (not_dec_t hg50) h
   iterate 3 refine S_unwanted rfl rfl hg50 rfl ?_
   refine S_v (r_pickT rfl hg50 rfl) rfl ?_;refine S_pu 1 rfl ?_
   iterate 3 refine S_unwanted rfl rfl rfl rfl ?_
   refine S_v (r_pickT rfl rfl rfl) rfl ?_;refine S_pu 1 rfl ?_
   iterate 3 refine S_unwanted rfl rfl rfl rfl ?_
   refine S_v (r_pickT rfl rfl rfl) rfl ?_;refine S_pu 1 rfl ?_
   iterate 3 refine S_unwanted rfl rfl rfl rfl ?_
   refine S_v (r_pickT rfl rfl rfl) rfl ?_;refine S_pu 1 rfl ?_
   iterate 3 refine S_unwanted rfl rfl rfl rfl ?_
   refine S_v (r_pickT rfl rfl rfl) rfl ?_;refine S_pu 1 rfl ?_
   iterate 3 refine S_unwanted rfl rfl rfl rfl ?_
   refine S_v (r_pickT rfl rfl rfl) rfl ?_;refine S_seqnil ?_;refine W_true rfl ?_;refine W_pz 1 rfl ?_;refine W_ret ?_;refine At_seq_ret ?_;obtain rfl := Option.some.inj h;refine At_body rfl rfl ?_;exact ⟨hL45.ext, rfl⟩
  ·replace h := Go.L.ite_p (not_dec_f hg50) h;refine S_guarded rfl rfl hg50 ?_;refine S_v (r_field rfl underlying23 rfl zr3 (by decide)) rfl ?_;refine S_guarded rfl rfl hg50 ?_;refine S_v (r_loadB1 7 rfl underlying3 rfl hL45 rfl rfl) rfl ?_;refine S_guarded rfl rfl hg50 ?_;refine S_v (RunsAt_pu rfl) rfl ?_;refine S_v (r_pickF rfl hg50 rfl) rfl ?_;refine S_pu 1 rfl ?_;refine S_split (s := 70) rfl (fun hg53 => ?_) (fun hg53 => ?_)
   ·replace h := Go.L.ite_n (not_dec_t hg53) h
    iterate 3 refine S_unwanted rfl rfl hg53 rfl ?_
    refine S_v (r_pickT rfl hg53 rfl) rfl ?_;refine S_pu 1 rfl ?_
    iterate 3 refine S_unwanted rfl rfl rfl rfl ?_
    refine S_v (r_pickT rfl rfl rfl) rfl ?_;refine S_pu 1 rfl ?_
    iterate 3 refine S_unwanted rfl rfl rfl rfl ?_
    refine S_v (r_pickT rfl rfl rfl) rfl ?_;refine S_pu 1 rfl ?_
    iterate 3 refine S_unwanted rfl rfl rfl rfl ?_
    refine S_v (r_pickT rfl rfl rfl) rfl ?_;refine S_pu 1 rfl ?_
    iterate 3 refine S_unwanted rfl rfl rfl rfl ?_
    refine S_v (r_pickT rfl rfl rfl) rfl ?_;refine S_seqnil ?_;refine W_true rfl ?_;refine W_pz 1 rfl ?_;refine W_ret ?_;refine At_seq_ret ?_;obtain rfl := Option.some.inj h;refine At_body rfl rfl ?_;exact ⟨hL45.ext, rfl⟩
   ·replace h := Go.L.ite_p (not_dec_f hg53) h;refine S_guarded rfl rfl hg53 ?_;refine S_v (r_field rfl underlying23 rfl zr3 (by decide)) rfl ?_;refine S_guarded rfl rfl hg53 ?_;refine S_v (r_loadB1 5 rfl underlying3 rfl hL45 rfl rfl) rfl ?_;refine S_guarded rfl rfl hg53 ?_;refine S_v (RunsAt_pu rfl) rfl ?_;refine S_v (r_pickF rfl hg53 rfl) rfl ?_;refine S_pu 1 rfl ?_;refine S_split (s := 75) rfl (fun hg56 => ?_) (fun hg56 => ?_)
    ·replace h := Go.L.ite_n (not_dec_t hg56) h
     iterate 3 refine S_unwanted rfl rfl hg56 rfl ?_
     refine S_v (r_pickT rfl hg56 rfl) rfl ?_;refine S_pu 1 rfl ?_
     iterate 3 refine S_unwanted rfl rfl rfl rfl ?_
     refine S_v (r_pickT rfl rfl rfl) rfl ?_;refine S_pu 1 rfl ?_
     iterate 3 refine S_unwanted rfl rfl rfl rfl ?_
     refine S_v (r_pickT rfl rfl rfl) rfl ?_;refine S_pu 1 rfl ?_
     iterate 3 refine S_unwanted rfl rfl rfl rfl ?_
     refine S_v (r_pickT rfl rfl rfl) rfl ?_;refine S_seqnil ?_;refine W_true rfl ?_;refine W_pz 1 rfl ?_;refine W_ret ?_;refine At_seq_ret ?_;obtain rfl := Option.some.inj h;refine At_body rfl rfl ?_;exact ⟨hL45.ext, rfl⟩
    ·replace h := Go.L.ite_p (not_dec_f hg56) h;refine S_guarded rfl rfl hg56 ?_;refine S_v (r_field rfl underlying23 rfl zr3 (by decide)) rfl ?_;refine S_guarded rfl rfl hg56 ?_;refine S_v (r_loadB1 4 rfl underlying3 rfl hL45 rfl rfl) rfl ?_;refine S_guarded rfl rfl hg56 ?_;refine S_v (RunsAt_pu rfl) rfl ?_;refine S_v (r_pickF rfl hg56 rfl) rfl ?_;refine S_pu 1 rfl ?_;refine S_split (s := 80) rfl (fun hg59 => ?_) (fun hg59 => ?_)
     ·replace h := Go.L.ite_n (not_dec_t hg59) h
      iterate 3 refine S_unwanted rfl rfl hg59 rfl ?_
      refine S_v (r_pickT rfl hg59 rfl) rfl ?_;refine S_pu 1 rfl ?_
      iterate 3 refine S_unwanted rfl rfl rfl rfl ?_
      refine S_v (r_pickT rfl rfl rfl) rfl ?_;refine S_pu 1 rfl ?_
      iterate 3 refine S_unwanted rfl rfl rfl rfl ?_
      refine S_v (r_pickT rfl rfl rfl) rfl ?_;refine S_seqnil ?_;refine W_true rfl ?_;refine W_pz 1 rfl ?_;refine W_ret ?_;refine At_seq_ret ?_;obtain rfl := Option.some.inj h;refine At_body rfl rfl ?_;exact ⟨hL45.ext, rfl⟩
     ·replace h := Go.L.ite_p (not_dec_f hg59) h;refine S_guarded rfl rfl hg59 ?_;refine S_v (r_field rfl underlying23 rfl zr3 (by decide)) rfl ?_;refine S_guarded rfl rfl hg59 ?_;refine S_v (r_loadB1 3 rfl underlying3 rfl hL45 rfl rfl) rfl ?_;refine S_guarded rfl rfl hg59 ?_;refine S_v (RunsAt_pu rfl) rfl ?_;refine S_v (r_pickF rfl hg59 rfl) rfl ?_;refine S_pu 1 rfl ?_;refine S_split (s := 85) rfl (fun hg62 => ?_) (fun hg62 => ?_)
      ·replace h := Go.L.ite_n (not_dec_t hg62) h
       iterate 3 refine S_unwanted rfl rfl hg62 rfl ?_
       refine S_v (r_pickT rfl hg62 rfl) rfl ?_;refine S_pu 1 rfl ?_
       iterate 3 refine S_unwanted rfl rfl rfl rfl ?_
       refine S_v (r_pickT rfl rfl rfl) rfl ?_;refine S_seqnil ?_;refine W_true rfl ?_;refine W_pz 1 rfl ?_;refine W_ret ?_;refine At_seq_ret ?_;obtain rfl := Option.some.inj h;refine At_body rfl rfl ?_;exact ⟨hL45.ext, rfl⟩
      ·replace h := Go.L.ite_p (not_dec_f hg62) h;refine S_guarded rfl rfl hg62 ?_;refine S_v (r_field rfl underlying23 rfl zr3 (by decide)) rfl ?_;refine S_guarded rfl rfl hg62 ?_;refine S_v (r_loadB1 2 rfl underlying3 rfl hL45 rfl rfl) rfl ?_;refine S_guarded rfl rfl hg62 ?_;refine S_v (RunsAt_pu rfl) rfl ?_;refine S_v (r_pickF rfl hg62 rfl) rfl ?_;refine S_pu 1 rfl ?_;refine S_split (s := 90) rfl (fun hg65 => ?_) (fun hg65 => ?_)
       ·replace h := Go.L.ite_n (not_dec_t hg65) h
        iterate 3 refine S_unwanted rfl rfl hg65 rfl ?_
        refine S_v (r_pickT rfl hg65 rfl) rfl ?_;refine S_seqnil ?_;refine W_true rfl ?_;refine W_pz 1 rfl ?_;refine W_ret ?_;refine At_seq_ret ?_;obtain rfl := Option.some.inj h;refine At_body rfl rfl ?_;exact ⟨hL45.ext, rfl⟩
       ·replace h := Go.L.ite_p (not_dec_f hg65) h;refine S_guarded rfl rfl hg65 ?_;refine S_v (r_field rfl underlying23 rfl zr3 (by decide)) rfl ?_;refine S_guarded rfl rfl hg65 ?_;refine S_v (r_loadB1 0 rfl underlying3 rfl hL45 rfl rfl) rfl ?_;refine S_guarded rfl rfl hg65 ?_;refine S_v (RunsAt_pu rfl) rfl ?_;refine S_v (r_pickF rfl hg65 rfl) rfl ?_;refine S_seqnil ?_;refine W_ifn rfl (fun hc68 => ?_) (fun hc68 => ?_)
        ·replace h := Go.L.ite_n hc68 h;refine W_pz 1 rfl ?_;refine W_ret ?_;refine At_seq_ret ?_;obtain rfl := Option.some.inj h;refine At_body rfl rfl ?_;exact ⟨hL45.ext, rfl⟩
        ·replace h := Go.L.ite_p hc68 h;refine W_skip ?_;refine At_seq ?_;refine W_p 2 rfl ?_;refine S_pickT 2 1 rfl rfl rfl rfl rfl rfl rfl ?_;refine S_pu 1 rfl ?_;refine S_split (s := 100) rfl (fun hg71 => ?_) (fun hg71 => ?_)
         ·replace h := Go.L.ite_t hg71 h;refine S_guarded rfl rfl hg71 ?_;refine S_v (RunsAt_pu rfl) rfl ?_;refine S_guarded rfl rfl hg71 ?_;refine S_litE (r := .st) (l := [([] : List UInt8), ([97] : List UInt8)]) rfl (fun _ => bsl30_2 _ rfl _ rfl _) rfl (show 2 ≤ 9223372036854775807 by decide) hH hL45 (.c1 rfl (.c1 rfl .nil)) ?_;intro v73 w73 hx73 hL73 hle73 hv73;replace hG46 := hG46.trans (gz_mono hH hle73);refine S_guarded rfl rfl hg71 ?_;obtain ⟨x74, hb74, h⟩ := Go.L.bind_some h;refine S_callL rfl rfl hL73 (ref4_Texts_ok _ _ (gz_le hH hL73) ((hv12_0.mono hG30).mono hG46) hv73 hb74) ?_;rintro _ w75 rfl hx75 hL75 hle75;replace hv73 := hv73.mono (gz_mono hH hle75);replace hG46 := hG46.trans (gz_mono hH hle75);refine S_v (r_pickT rfl hg71 rfl) rfl ?_;refine S_pu 1 rfl ?_;refine S_split (s := 105) rfl (fun hg76 => ?_) (fun hg76 => ?_)
          ·replace h := Go.L.ite_t hg76 h;refine S_guarded rfl rfl hg76 ?_;refine S_v (RunsAt_pu rfl) rfl ?_;refine S_guarded rfl rfl hg76 ?_;refine S_litE (r := (.int .i64)) (l := [(1 : Int)]) rfl (fun _ => bsl52_1 _ _) rfl (show 1 ≤ 9223372036854775807 by decide) hH hL75 (.c1 rfl .nil) ?_;intro v78 w78 hx78 hL78 hle78 hv78;replace hv73 := hv73.mono (gz_mono hH hle78);replace hG46 := hG46.trans (gz_mono hH hle78);refine S_guarded rfl rfl hg76 ?_;obtain ⟨x79, hb79, h⟩ := Go.L.bind_some h;refine S_callL rfl rfl hL78 (ref3_Ints_ok _ _ (gz_le hH hL78) ((hv27_0.mono hG30).mono hG46) hv78 hb79) ?_;rintro _ w80 rfl hx80 hL80 hle80;replace hv73 := hv73.mono (gz_mono hH hle80);replace hv78 := hv78.mono (gz_mono hH hle80);replace hG46 := hG46.trans (gz_mono hH hle80);refine S_v (r_pickT rfl hg76 rfl) rfl ?_;refine S_pu 1 rfl ?_;refine S_split (s := 110) rfl (fun hg81 => ?_) (fun hg81 => ?_)
           ·replace h := Go.L.ite_t hg81 h;refine S_guarded rfl rfl hg81 ?_;refine S_v (RunsAt_pu rfl) rfl ?_;refine S_guarded rfl rfl hg81 ?_;refine S_litE (r := (.int .i64)) (l := [(0 : Int), (1 : Int)]) rfl (fun _ => bsl52_2 _ _ _) rfl (show 2 ≤ 9223372036854775807 by decide) hH hL80 (.c1 rfl (.c1 rfl .nil)) ?_;intro v83 w83 hx83 hL83 hle83 hv83;replace hv73 := hv73.mono (gz_mono hH hle83);replace hv78 := hv78.mono (gz_mono hH hle83);replace hG46 := hG46.trans (gz_mono hH hle83);refine S_guarded rfl rfl hg81 ?_;obtain ⟨x84, hb84, h⟩ := Go.L.bind_some h;refine S_callL rfl rfl hL83 (ref3_Ints_ok _ _ (gz_le hH hL83) (hv32_0.mono hG46) hv83 hb84) ?_;rintro _ w85 rfl hx85 hL85 hle85;replace hv73 := hv73.mono (gz_mono hH hle85);replace hv78 := hv78.mono (gz_mono hH hle85);replace hv83 := hv83.mono (gz_mono hH hle85);replace hG46 := hG46.trans (gz_mono hH hle85);refine S_v (r_pickT rfl hg81 rfl) rfl ?_;refine S_pu 1 rfl ?_;refine S_split (s := 115) rfl (fun hg86 => ?_) (fun hg86 => ?_)
            ·replace h := Go.L.ite_t hg86 h;refine S_guarded rfl rfl hg86 ?_;refine S_v (RunsAt_pu rfl) rfl ?_;refine S_guarded rfl rfl hg86 ?_;refine S_v (r_len rfl underlying52 (hv36_0.mono hG46)) rfl ?_;refine S_guarded rfl rfl hg86 ?_;refine S_v (RunsAt_pu rfl) rfl ?_;refine S_v (r_pickT rfl hg86 rfl) rfl ?_;refine S_pu 1 rfl ?_;refine S_split (s := 120) rfl (fun hg88 => ?_) (fun hg88 => ?_)
             ·replace h := Go.L.ite_p (of_decide_eq_true hg88) h;refine S_guarded rfl rfl hg88 ?_;refine S_v (r_loadBN 1 rfl underlying47 rfl zr47 hL85 rfl) rfl ?_;refine S_guarded rfl rfl hg88 ?_;obtain ⟨x90, hb90, h⟩ := Go.L.bind_some h;refine S_callL rfl rfl hL85 (shapes_Index_Items_ok (a0 := (x40.1.1, x40.1.2)) _ _ (gz_le hH hL85) (hv41_0.mono hG46) hb90) ?_;rintro _ w91 rfl hx91 hL91 hle91;replace hv73 := hv73.mono (gz_mono hH hle91);replace hv78 := hv78.mono (gz_mono hH hle91);replace hv83 := hv83.mono (gz_mono hH hle91);replace hG46 := hG46.trans (gz_mono hH hle91);refine S_guarded rfl rfl hg88 ?_;refine S_v (RunsAt_pu rfl) rfl ?_;refine S_v (r_pickT rfl hg88 rfl) rfl ?_;refine S_pu 1 rfl ?_;refine S_split (s := 125) rfl (fun hg92 => ?_) (fun hg92 => ?_)
              ·replace h := Go.L.ite_p (of_decide_eq_true hg92) h;refine S_guarded rfl rfl hg92 ?_;obtain ⟨x94, hb94, h⟩ := Go.L.bind_some h;refine S_callL rfl rfl hL91 (shapes_Check_ok _ _ (gz_le hH hL91) hb94) ?_;rintro _ w95 rfl hx95 hL95 hle95;replace hv73 := hv73.mono (gz_mono hH hle95);replace hv78 := hv78.mono (gz_mono hH hle95);replace hv83 := hv83.mono (gz_mono hH hle95);replace hG46 := hG46.trans (gz_mono hH hle95);refine S_guarded rfl rfl hg92 ?_;obtain ⟨x96, hb96, h⟩ := Go.L.bind_some h;refine S_callL rfl rfl hL95 (ref3_At_ok _ _ (gz_le hH hL95) hb96) ?_;rintro _ w97 rfl hx97 hL97 hle97;replace hv73 := hv73.mono (gz_mono hH hle97);replace hv78 := hv78.mono (gz_mono hH hle97);replace hv83 := hv83.mono (gz_mono hH hle97);replace hG46 := hG46.trans (gz_mono hH hle97);refine S_guarded rfl rfl hg92 ?_;refine S_v (r_eqA rfl rfl eqg23 (eq23 _ _ _ _ )) rfl ?_;refine S_v (r_pickT rfl hg92 rfl) rfl ?_;refine S_pz 1 rfl ?_;refine W_ret ?_;obtain rfl := Option.some.inj h;refine At_body rfl rfl ?_;exact ⟨hL97.ext, rfl⟩
              ·replace h := Go.L.ite_n (of_decide_eq_false hg92) h
               iterate 3 refine S_unwanted rfl rfl hg92 rfl ?_
               refine S_v (r_pickF rfl hg92 rfl) rfl ?_;refine S_pz 1 rfl ?_;refine W_ret ?_;obtain rfl := Option.some.inj h;refine At_body rfl rfl ?_;exact ⟨hL91.ext, rfl⟩
             ·replace h := Go.L.ite_n (of_decide_eq_false hg88) h
              iterate 3 refine S_unwanted rfl rfl hg88 rfl ?_
              refine S_v (r_pickF rfl hg88 rfl) rfl ?_;refine S_pu 1 rfl ?_
              iterate 3 refine S_unwanted rfl rfl rfl rfl ?_
              refine S_v (r_pickF rfl rfl rfl) rfl ?_;refine S_pz 1 rfl ?_;refine W_ret ?_;obtain rfl := Option.some.inj h;refine At_body rfl rfl ?_;exact ⟨hL85.ext, rfl⟩
            ·replace h := Go.L.ite_f hg86 h
             iterate 3 refine S_unwanted rfl rfl hg86 rfl ?_
             refine S_v (r_pickF rfl hg86 rfl) rfl ?_;refine S_pu 1 rfl ?_
             iterate 3 refine S_unwanted rfl rfl rfl rfl ?_
             refine S_v (r_pickF rfl rfl rfl) rfl ?_;refine S_pu 1 rfl ?_
             iterate 3 refine S_unwanted rfl rfl rfl rfl ?_
             refine S_v (r_pickF rfl rfl rfl) rfl ?_;refine S_pz 1 rfl ?_;refine W_ret ?_;obtain rfl := Option.some.inj h;refine At_body rfl rfl ?_;exact ⟨hL85.ext, rfl⟩
           ·replace h := Go.L.ite_f hg81 h
            iterate 3 refine S_unwanted rfl rfl hg81 rfl ?_
            refine S_v (r_pickF rfl hg81 rfl) rfl ?_;refine S_pu 1 rfl ?_
            iterate 3 refine S_unwanted rfl rfl rfl rfl ?_
            refine S_v (r_pickF rfl rfl rfl) rfl ?_;refine S_pu 1 rfl ?_
            iterate 3 refine S_unwanted rfl rfl rfl rfl ?_
            refine S_v (r_pickF rfl rfl rfl) rfl ?_;refine S_pu 1 rfl ?_
            iterate 3 refine S_unwanted rfl rfl rfl rfl ?_
            refine S_v (r_pickF rfl rfl rfl) rfl ?_;refine S_pz 1 rfl ?_;refine W_ret ?_;obtain rfl := Option.some.inj h;refine At_body rfl rfl ?_;exact ⟨hL80.ext, rfl⟩
          ·replace h := Go.L.ite_f hg76 h
           iterate 3 refine S_unwanted rfl rfl hg76 rfl ?_
           refine S_v (r_pickF rfl hg76 rfl) rfl ?_;refine S_pu 1 rfl ?_
           iterate 3 refine S_unwanted rfl rfl rfl rfl ?_
           refine S_v (r_pickF rfl rfl rfl) rfl ?_;refine S_pu 1 rfl ?_
           iterate 3 refine S_unwanted rfl rfl rfl rfl ?_
           refine S_v (r_pickF rfl rfl rfl) rfl ?_;refine S_pu 1 rfl ?_
           iterate 3 refine S_unwanted rfl rfl rfl rfl ?_
           refine S_v (r_pickF rfl rfl rfl) rfl ?_;refine S_pu 1 rfl ?_
           iterate 3 refine S_unwanted rfl rfl rfl rfl ?_
           refine S_v (r_pickF rfl rfl rfl) rfl ?_;refine S_pz 1 rfl ?_;refine W_ret ?_;obtain rfl := Option.some.inj h;refine At_body rfl rfl ?_;exact ⟨hL75.ext, rfl⟩
         ·replace h := Go.L.ite_f hg71 h
          iterate 3 refine S_unwanted rfl rfl hg71 rfl ?_
          refine S_v (r_pickF rfl hg71 rfl) rfl ?_;refine S_pu 1 rfl ?_
          iterate 3 refine S_unwanted rfl rfl rfl rfl ?_
          refine S_v (r_pickF rfl rfl rfl) rfl ?_;refine S_pu 1 rfl ?_
          iterate 3 refine S_unwanted rfl rfl rfl rfl ?_
          refine S_v (r_pickF rfl rfl rfl) rfl ?_;refine S_pu 1 rfl ?_
          iterate 3 refine S_unwanted rfl rfl rfl rfl ?_
          refine S_v (r_pickF rfl rfl rfl) rfl ?_;refine S_pu 1 rfl ?_
          iterate 3 refine S_unwanted rfl rfl rfl rfl ?_
          refine S_v (r_pickF rfl rfl rfl) rfl ?_;refine S_pu 1 rfl ?_
          iterate 3 refine S_unwanted rfl rfl rfl rfl ?_
          refine S_v (r_pickF rfl rfl rfl) rfl ?_;refine S_pz 1 rfl ?_;refine W_ret ?_;obtain rfl := Option.some.inj h;refine At_body rfl rfl ?_;exact ⟨hL45.ext, rfl⟩
end Go.Proofs.YtmfiaecglndldaaGreatDoor
end
section
namespace Go.Proofs.YtmfiaecglndldaaGreatDoor
open Go Go.E Go.RowKit Go.L
noncomputable instance (a b c d) : Mi (genSplitL a b c d) := ⟨_, apR _⟩
noncomputable instance (a b) : Mi (idxbL a b) := ⟨_, apR _⟩
noncomputable instance (a b) : Mi (joinL a b) := ⟨_, apR _⟩
noncomputable instance (a) : Mi (nameCF a) := ⟨_, apR _⟩
noncomputable instance (a0 : Int) (a1 : Int) : Mi (shapes_fault a0 a1) := by delta shapes_fault; infer_instance
noncomputable instance (a0 : List UInt8) (a1 : List UInt8) : Mi (strings_Split a0 a1) := by delta strings_Split; infer_instance
noncomputable instance (a0 : List UInt8) : Mi (shapes_steps a0) := by delta shapes_steps; infer_instance
noncomputable instance (a0 : List UInt8) : Mi (value_Name a0) := by delta value_Name; infer_instance
noncomputable instance  : Mi (shapes_Check_k1) := by delta shapes_Check_k1; infer_instance
noncomputable instance (x85 : (List (List UInt8))) (s) : Mi (shapes_Check_bl2 x85 s) := by obtain ⟨s3_122, s13_123⟩ := s; delta shapes_Check_bl2; dsimp only; repeat' first | (show Mi _; infer_instance) | refine @iB _ _ _ _ ?_ (fun _ => ?_) | refine @iC _ _ _ _ ?_ | refine @iI _ _ _ _ _ ?_ ?_
noncomputable instance (x85 : (List (List UInt8))) (s : Int × Int) : Mi (shapes_Check_l2 x85 s) := by delta shapes_Check_l2; infer_instance
noncomputable instance (a0 : List UInt8) : Mi (shapes_Check a0) := by delta shapes_Check; infer_instance
noncomputable instance (a0 : List UInt8) : Mi (shapes_isPath_1 a0) := by delta shapes_isPath_1; infer_instance
noncomputable instance  : Mi (idxf_isPath_1_k1) := by delta idxf_isPath_1_k1; infer_instance
noncomputable instance (a0 : List (List UInt8)) (s) : Mi (idxf_isPath_1_bl2 a0 s) := by delta idxf_isPath_1_bl2; infer_instance
noncomputable instance (a0 : List (List UInt8)) (s : Int) : Mi (idxf_isPath_1_l2 a0 s) := by delta idxf_isPath_1_l2; infer_instance
noncomputable instance (a0 : List (List UInt8)) : Mi (idxf_isPath_1 a0) := by delta idxf_isPath_1; infer_instance
noncomputable instance (a0 : List (List UInt8)) : Mi (conf_isPath_1 a0) := by delta conf_isPath_1; infer_instance
noncomputable instance (a0 : List UInt8) : Mi (shapes_isPath a0) := by delta shapes_isPath; infer_instance
noncomputable instance (a0 : List UInt8) (a1 : List UInt8) : Mi (shapes_matches_1 a0 a1) := by delta shapes_matches_1; infer_instance
noncomputable instance (l233 : List (List UInt8)) (s5_234 : Int) : Mi (slices_CompactFunc_string_string_k4 l233 s5_234) := by delta slices_CompactFunc_string_string_k4; infer_instance
noncomputable instance (s5_128 : Int) (s) : Mi (slices_CompactFunc_string_string_bl5 s5_128 s) := by obtain ⟨l263, s5_264, s7_265⟩ := s; delta slices_CompactFunc_string_string_bl5; dsimp only; infer_instance
noncomputable instance (s5_128 : Int) (s : (List (List UInt8)) × Int × Int) : Mi (slices_CompactFunc_string_string_l5 s5_128 s) := by delta slices_CompactFunc_string_string_l5; infer_instance
noncomputable instance (l127 : List (List UInt8)) (s5_186 : Int) : Mi (slices_CompactFunc_string_string_k3 l127 s5_186) := by delta slices_CompactFunc_string_string_k3; infer_instance
noncomputable instance (l65 : List (List UInt8)) : Mi (slices_CompactFunc_string_string_k1 l65) := by delta slices_CompactFunc_string_string_k1; infer_instance
noncomputable instance  (s) : Mi (slices_CompactFunc_string_string_bl2 s) := by obtain ⟨l127, s5_128⟩ := s; delta slices_CompactFunc_string_string_bl2; dsimp only; infer_instance
noncomputable instance (s : (List (List UInt8)) × Int) : Mi (slices_CompactFunc_string_string_l2 s) := by delta slices_CompactFunc_string_string_l2; infer_instance
noncomputable instance (a0 : List (List UInt8)) : Mi (slices_CompactFunc_string_string a0) := by delta slices_CompactFunc_string_string; infer_instance
noncomputable instance  : Mi (shapes_match_body_k2) := by delta shapes_match_body_k2; infer_instance
noncomputable instance (a0 : List (List UInt8)) (a1 : List (List UInt8)) (self : (List (List UInt8)) → (List (List UInt8)) → Option (Bool)) [∀ x0 x1, Mi (self x0 x1)] (s) : Mi (shapes_match_body_bl3 a0 a1 self s) := by delta shapes_match_body_bl3; infer_instance
noncomputable instance (a0 : List (List UInt8)) (a1 : List (List UInt8)) (self : (List (List UInt8)) → (List (List UInt8)) → Option (Bool)) [∀ x0 x1, Mi (self x0 x1)] (s : Int) : Mi (shapes_match_body_l3 a0 a1 self s) := by delta shapes_match_body_l3; infer_instance
noncomputable instance (a0 : List (List UInt8)) (a1 : List (List UInt8)) (self : (List (List UInt8)) → (List (List UInt8)) → Option (Bool)) [∀ x0 x1, Mi (self x0 x1)] : Mi (shapes_match_body_k1 a0 a1 self) := by delta shapes_match_body_k1; infer_instance
noncomputable instance (self : (List (List UInt8)) → (List (List UInt8)) → Option (Bool)) [∀ x0 x1, Mi (self x0 x1)] (a0 : List (List UInt8)) (a1 : List (List UInt8)) : Mi (shapes_match_body self a0 a1) := by delta shapes_match_body; infer_instance
noncomputable instance shapes_match_nMi  : ∀ (n : Nat) (y0) (y1), Mi (shapes_match_n n y0 y1)
 | 0, _, _ => ⟨none, fun _ h => by cases h⟩
 | n + 1, y0, y1 => by
  haveI := shapes_match_nMi n
  show Mi (shapes_match_body (shapes_match_n n) y0 y1)
  infer_instance
noncomputable instance  (y0) (y1) : Mi (shapes_match y0 y1) := by delta shapes_match; infer_instance
noncomputable instance (a0 : List UInt8) (a1 : List UInt8) : Mi (shapes_matches a0 a1) := by delta shapes_matches; infer_instance
noncomputable instance (a0 : List UInt8) (a1 : List UInt8) : Mi (shapes_Match a0 a1) := by delta shapes_Match; infer_instance
noncomputable instance (a0 : Int) : Mi (law4_number a0) := by delta law4_number; infer_instance
noncomputable instance (a0 : Int) : Mi (law4_record a0) := by delta law4_record; infer_instance
noncomputable instance (a0 : Int) (a1 : Int) : Mi (value_fault a0 a1) := by delta value_fault; infer_instance
noncomputable instance  : Mi (slices_Index_int_int_k1) := by delta slices_Index_int_int_k1; infer_instance
noncomputable instance (a0 : List Int) (a1 : Int) (s) : Mi (slices_Index_int_int_bl2 a0 a1 s) := by delta slices_Index_int_int_bl2; infer_instance
noncomputable instance (a0 : List Int) (a1 : Int) (s : Int) : Mi (slices_Index_int_int_l2 a0 a1 s) := by delta slices_Index_int_int_l2; infer_instance
noncomputable instance (a0 : List Int) (a1 : Int) : Mi (slices_Index_int_int a0 a1) := by delta slices_Index_int_int; infer_instance
noncomputable instance (a0 : List Int) (a1 : Int) : Mi (slices_Contains_int_int a0 a1) := by delta slices_Contains_int_int; infer_instance
noncomputable instance (a0 : List Int) (a1 : Go.L.Pv) : Mi (value_checkNode_1 a0 a1) := by delta value_checkNode_1; infer_instance
noncomputable instance (a0 : List UInt8) : Mi (value_checkNode_2 a0) := by delta value_checkNode_2; infer_instance
noncomputable instance  : Mi (idxf_checkNode_2_k1) := by delta idxf_checkNode_2_k1; infer_instance
noncomputable instance (a0 : List (List UInt8)) (s) : Mi (idxf_checkNode_2_bl2 a0 s) := by delta idxf_checkNode_2_bl2; infer_instance
noncomputable instance (a0 : List (List UInt8)) (s : Int) : Mi (idxf_checkNode_2_l2 a0 s) := by delta idxf_checkNode_2_l2; infer_instance
noncomputable instance (a0 : List (List UInt8)) : Mi (idxf_checkNode_2 a0) := by delta idxf_checkNode_2; infer_instance
noncomputable instance (a0 : List (List UInt8)) : Mi (conf_checkNode_2 a0) := by delta conf_checkNode_2; infer_instance
noncomputable instance  : Mi (slices_Index_string_string_k1) := by delta slices_Index_string_string_k1; infer_instance
noncomputable instance (a0 : List (List UInt8)) (a1 : List UInt8) (s) : Mi (slices_Index_string_string_bl2 a0 a1 s) := by delta slices_Index_string_string_bl2; infer_instance
noncomputable instance (a0 : List (List UInt8)) (a1 : List UInt8) (s : Int) : Mi (slices_Index_string_string_l2 a0 a1 s) := by delta slices_Index_string_string_l2; infer_instance
noncomputable instance (a0 : List (List UInt8)) (a1 : List UInt8) : Mi (slices_Index_string_string a0 a1) := by delta slices_Index_string_string; infer_instance
noncomputable instance (a0 : List (List UInt8)) (a1 : List UInt8) : Mi (slices_Contains_string_string a0 a1) := by delta slices_Contains_string_string; infer_instance
noncomputable instance  : Mi (value_checkNode_k2) := by delta value_checkNode_k2; infer_instance
noncomputable instance (c260 : List (List UInt8)) (s) : Mi (value_checkNode_bl3 c260 s) := by delta value_checkNode_bl3; infer_instance
noncomputable instance (c260 : List (List UInt8)) (s : Int) : Mi (value_checkNode_l3 c260 s) := by delta value_checkNode_l3; infer_instance
noncomputable instance (_c257 : Int) (_c258 : Int) (_c259 : List UInt8) (c260 : List (List UInt8)) (c261 : List Go.L.Pv) (s12_262 : Bool) : Mi (value_checkNode_k1 _c257 _c258 _c259 c260 c261 s12_262) := by delta value_checkNode_k1; infer_instance
noncomputable instance (a0 : Go.L.Pv) : Mi (value_checkNode a0) := by delta value_checkNode; repeat' first | (show Mi _; infer_instance) | refine @iB _ _ _ _ ?_ (fun _ => ?_) | refine @iC _ _ _ _ ?_ | refine @iI _ _ _ _ _ ?_ ?_
noncomputable instance (s9_65 : Int) : Mi (value_check_body_k1 s9_65) := by delta value_check_body_k1; infer_instance
noncomputable instance (a0 : Go.L.Pv) (a2 : Int) (self : Go.L.Pv → Int → Int → Option (Int × (Int × Int))) [∀ x0 x1 x2, Mi (self x0 x1 x2)] (s) : Mi (value_check_body_bl2 a0 a2 self s) := by obtain ⟨s9_90, s33_91⟩ := s; delta value_check_body_bl2; dsimp only; infer_instance
noncomputable instance (a0 : Go.L.Pv) (a2 : Int) (self : Go.L.Pv → Int → Int → Option (Int × (Int × Int))) [∀ x0 x1 x2, Mi (self x0 x1 x2)] (s : Int × Int) : Mi (value_check_body_l2 a0 a2 self s) := by delta value_check_body_l2; infer_instance
noncomputable instance (self : Go.L.Pv → Int → Int → Option (Int × (Int × Int))) [∀ x0 x1 x2, Mi (self x0 x1 x2)] (a0 : Go.L.Pv) (a1 : Int) (a2 : Int) : Mi (value_check_body self a0 a1 a2) := by delta value_check_body; infer_instance
noncomputable instance value_check_nMi  : ∀ (n : Nat) (y0) (y1) (y2), Mi (value_check_n n y0 y1 y2)
 | 0, _, _, _ => ⟨none, fun _ h => by cases h⟩
 | n + 1, y0, y1, y2 => by
  haveI := value_check_nMi n
  show Mi (value_check_body (value_check_n n) y0 y1 y2)
  infer_instance
noncomputable instance  (y0) (y1) (y2) : Mi (value_check y0 y1 y2) := by delta value_check; infer_instance
noncomputable instance (l12 : List UInt8) (s3_13 : Int) : Mi (wire_Number_k1 l12 s3_13) := by delta wire_Number_k1; infer_instance
noncomputable instance  (s) : Mi (wire_Number_bl2 s) := by obtain ⟨l23, s3_24⟩ := s; delta wire_Number_bl2; dsimp only; infer_instance
noncomputable instance (s : (List UInt8) × Int) : Mi (wire_Number_l2 s) := by delta wire_Number_l2; infer_instance
noncomputable instance (a0 : Int) : Mi (wire_Number a0) := by delta wire_Number; infer_instance
noncomputable instance (a0 : List UInt8) : Mi (wire_Chunk a0) := by delta wire_Chunk; infer_instance
noncomputable instance (a0 : Go.L.Pv) (s34_107 : Int) (self : Go.L.Pv → Option ((List UInt8))) [∀ x0, Mi (self x0)] (l128 : List UInt8) : Mi (value_encode_body_k3 a0 s34_107 self l128) := by delta value_encode_body_k3; infer_instance
noncomputable instance (l77 : List UInt8) : Mi (value_encode_body_k1 l77) := by delta value_encode_body_k1; infer_instance
noncomputable instance (a0 : Go.L.Pv) (self : Go.L.Pv → Option ((List UInt8))) [∀ x0, Mi (self x0)] (s) : Mi (value_encode_body_bl2 a0 self s) := by obtain ⟨l106, s34_107⟩ := s; delta value_encode_body_bl2; dsimp only; infer_instance
noncomputable instance (a0 : Go.L.Pv) (self : Go.L.Pv → Option ((List UInt8))) [∀ x0, Mi (self x0)] (s : (List UInt8) × Int) : Mi (value_encode_body_l2 a0 self s) := by delta value_encode_body_l2; infer_instance
noncomputable instance (self : Go.L.Pv → Option ((List UInt8))) [∀ x0, Mi (self x0)] (a0 : Go.L.Pv) : Mi (value_encode_body self a0) := by delta value_encode_body; infer_instance
noncomputable instance value_encode_nMi  : ∀ (n : Nat) (y0), Mi (value_encode_n n y0)
 | 0, _ => ⟨none, fun _ h => by cases h⟩
 | n + 1, y0 => by
  haveI := value_encode_nMi n
  show Mi (value_encode_body (value_encode_n n) y0)
  infer_instance
noncomputable instance  (y0) : Mi (value_encode y0) := by delta value_encode; infer_instance
noncomputable instance (a0 : Go.L.Pv) : Mi (value_Encode a0) := by delta value_Encode; infer_instance
noncomputable instance (a0 : Go.L.Pv) : Mi (value_Validate a0) := by delta value_Validate; infer_instance
noncomputable instance (a0 : List (List UInt8)) : Mi (slices_Clone_string_string a0) := by delta slices_Clone_string_string; infer_instance
noncomputable instance {σ : Type} (a0 : Go.L.Pv) (a1 : List (List UInt8)) (s24_45 : Int) (self : Go.L.Pv → (List (List UInt8)) → σ → Option σ) [∀ x0 x1 x2, Mi (self x0 x1 x2)] (s8_62 : List UInt8) (sJ63 : σ) : Mi (shapes_leaves_body_k2 a0 a1 s24_45 self s8_62 sJ63) := by delta shapes_leaves_body_k2; infer_instance
noncomputable instance {σ : Type} (a0 : Go.L.Pv) (a1 : List (List UInt8)) (self : Go.L.Pv → (List (List UInt8)) → σ → Option σ) [∀ x0 x1 x2, Mi (self x0 x1 x2)] (s) : Mi (shapes_leaves_body_bl1 a0 a1 self s) := by obtain ⟨s24_45, sJ46⟩ := s; delta shapes_leaves_body_bl1; dsimp only; infer_instance
noncomputable instance {σ : Type} (a0 : Go.L.Pv) (a1 : List (List UInt8)) (self : Go.L.Pv → (List (List UInt8)) → σ → Option σ) [∀ x0 x1 x2, Mi (self x0 x1 x2)] (s : Int × σ) : Mi (shapes_leaves_body_l1 a0 a1 self s) := by delta shapes_leaves_body_l1; infer_instance
noncomputable instance {σ : Type} (step : σ → ((List UInt8) × Int × Int × (List UInt8)) → Option σ) [∀ x0 x1, Mi (step x0 x1)] (self : Go.L.Pv → (List (List UInt8)) → σ → Option σ) [∀ x0 x1 x2, Mi (self x0 x1 x2)] (a0 : Go.L.Pv) (a1 : List (List UInt8)) (s : σ) : Mi (shapes_leaves_body step self a0 a1 s) := by delta shapes_leaves_body; infer_instance
noncomputable instance shapes_leaves_nMi {σ : Type} (step : σ → ((List UInt8) × Int × Int × (List UInt8)) → Option σ) [∀ x0 x1, Mi (step x0 x1)] : ∀ (n : Nat) (y0) (y1) (y2), Mi (shapes_leaves_n step n y0 y1 y2)
 | 0, _, _, _ => ⟨none, fun _ h => by cases h⟩
 | n + 1, y0, y1, y2 => by
  haveI := shapes_leaves_nMi step n
  show Mi (shapes_leaves_body step (shapes_leaves_n step n) y0 y1 y2)
  infer_instance
noncomputable instance {σ : Type} (step : σ → ((List UInt8) × Int × Int × (List UInt8)) → Option σ) [∀ x0 x1, Mi (step x0 x1)] (y0) (y1) (y2) : Mi (shapes_leaves step y0 y1 y2) := by delta shapes_leaves; infer_instance
noncomputable instance (a0 : (List UInt8) × Int × Int × (List UInt8)) (a1 : List (List UInt8)) : Mi (shapes_Paths_1 a0 a1) := by delta shapes_Paths_1; infer_instance
noncomputable instance (s : List (List UInt8)) (x : Lf) : Mi (pathStep s x) := by delta pathStep; infer_instance
noncomputable def shapes_Paths_is (a0 : Go.L.Pv) : Option ((List (List UInt8)) × (Int × Int)) := 
  Option.bind (value_Validate a0) (fun x3 => if x3.1 = (0 : Int) ∧ x3.2 = (0 : Int) then Option.bind (shapes_leaves pathStep a0 ([] : List (List UInt8)) ([] : List (List UInt8))) (fun x18 => Go.L.chk (x18.length < 4611686018427387904) (Go.L.chk ((isS x18).length ≤ 9223372036854775807) (some ((Lib.compact (isS x18)), ((0 : Int), (0 : Int)))))) else some ([], (x3.1, x3.2)))
theorem shapes_Paths_isE : @shapes_Paths_is = @shapes_Paths := by
  unfold shapes_Paths_is shapes_Paths;simp only [isS_eq, isI_eq]
noncomputable instance (a0 : Go.L.Pv) : Mi (shapes_Paths_is a0) := by delta shapes_Paths_is; infer_instance
noncomputable instance (a0 : Go.L.Pv) : Mi (shapes_Paths a0) := ⟨(inferInstance : Mi (shapes_Paths_is a0)).c, by rw [← shapes_Paths_isE]; exact (inferInstance : Mi (shapes_Paths_is a0)).h⟩
noncomputable instance (i : Int) (l : List (Lf × List Int)) (x : Lf) : Mi (buildStep i l x) := by delta buildStep; infer_instance
noncomputable instance (a0 : List Int) : Mi (slices_Clone_int_int a0) := by delta slices_Clone_int_int; infer_instance
noncomputable instance (l16 : List UInt8) : Mi (wslice_Number_k1 l16) := by delta wslice_Number_k1; infer_instance
noncomputable instance (a0 : List Int) (s) : Mi (wslice_Number_bl2 a0 s) := by obtain ⟨l30, s13_31⟩ := s; delta wslice_Number_bl2; dsimp only; infer_instance
noncomputable instance (a0 : List Int) (s : (List UInt8) × Int) : Mi (wslice_Number_l2 a0 s) := by delta wslice_Number_l2; infer_instance
noncomputable instance (a0 : List Int) : Mi (wslice_Number a0) := by delta wslice_Number; infer_instance
noncomputable instance (a1 : Int) : Mi (slices_Grow_byte_byte_k1 a1) := by delta slices_Grow_byte_byte_k1; infer_instance
noncomputable instance (_a0 : List UInt8) (a1 : Int) : Mi (slices_Grow_byte_byte _a0 a1) := by delta slices_Grow_byte_byte; infer_instance
noncomputable instance (l57 : List UInt8) : Mi (slices_Concat_byte_byte_k3 l57) := by delta slices_Concat_byte_byte_k3; infer_instance
noncomputable instance (a0 : List (List UInt8)) (s) : Mi (slices_Concat_byte_byte_bl4 a0 s) := by obtain ⟨l69, s27_70⟩ := s; delta slices_Concat_byte_byte_bl4; dsimp only; infer_instance
noncomputable instance (a0 : List (List UInt8)) (s : (List UInt8) × Int) : Mi (slices_Concat_byte_byte_l4 a0 s) := by delta slices_Concat_byte_byte_l4; infer_instance
noncomputable instance (a0 : List (List UInt8)) (s3_15 : Int) : Mi (slices_Concat_byte_byte_k1 a0 s3_15) := by delta slices_Concat_byte_byte_k1; infer_instance
noncomputable instance (a0 : List (List UInt8)) (s) : Mi (slices_Concat_byte_byte_bl2 a0 s) := by obtain ⟨s3_29, s11_30⟩ := s; delta slices_Concat_byte_byte_bl2; dsimp only; infer_instance
noncomputable instance (a0 : List (List UInt8)) (s : Int × Int) : Mi (slices_Concat_byte_byte_l2 a0 s) := by delta slices_Concat_byte_byte_l2; infer_instance
noncomputable instance (a0 : List (List UInt8)) : Mi (slices_Concat_byte_byte a0) := by delta slices_Concat_byte_byte; infer_instance
noncomputable instance (l117 : List UInt8) : Mi (shapes_form_k1 l117) := by delta shapes_form_k1; infer_instance
noncomputable instance (a0 : ((List UInt8) × Int × Int × (List UInt8)) × (List Int)) : Mi (shapes_form a0) := by delta shapes_form; infer_instance
noncomputable instance (l18 : List UInt8) : Mi (wslice_form_k1 l18) := by delta wslice_form_k1; infer_instance
noncomputable instance (a0 : List (((List UInt8) × Int × Int × (List UInt8)) × (List Int))) (s) : Mi (wslice_form_bl2 a0 s) := by obtain ⟨l34, s13_35⟩ := s; delta wslice_form_bl2; dsimp only; infer_instance
noncomputable instance (a0 : List (((List UInt8) × Int × Int × (List UInt8)) × (List Int))) (s : (List UInt8) × Int) : Mi (wslice_form_l2 a0 s) := by delta wslice_form_l2; infer_instance
noncomputable instance (a0 : List (((List UInt8) × Int × Int × (List UInt8)) × (List Int))) : Mi (wslice_form a0) := by delta wslice_form; infer_instance
noncomputable instance (a0 : Int × (List (((List UInt8) × Int × Int × (List UInt8)) × (List Int)))) : Mi (shapes_Index_Bytes a0) := by delta shapes_Index_Bytes; infer_instance
noncomputable instance (a0 : Int) (l71 : List (((List UInt8) × Int × Int × (List UInt8)) × (List Int))) : Mi (shapes_build_k1 a0 l71) := by delta shapes_build_k1; infer_instance
noncomputable def shapes_build_bl2_is (a0 : Int) (a1 : List (((List UInt8) × Int × Int × (List UInt8)) × (List Int))) (x74 : (List ((List UInt8) × Int × Int × (List UInt8)))) : (List (((List UInt8) × Int × Int × (List UInt8)) × (List Int))) × Int → Option (((List (((List UInt8) × Int × Int × (List UInt8)) × (List Int))) × Int) ⊕ ((Int × (List (((List UInt8) × Int × Int × (List UInt8)) × (List Int)))) × (Int × Int))) := fun ⟨l102, s15_103⟩ =>
  if s15_103 < (x74.length : Int) then Go.L.chk (0 ≤ s15_103 ∧ s15_103 < (x74.length : Int)) (Option.bind (slices_Clone_int_int (Go.L.mget [] ((x74.getD s15_103.toNat default).1, (x74.getD s15_103.toNat default).2.1, (x74.getD s15_103.toNat default).2.2.1, (x74.getD s15_103.toNat default).2.2.2) a1)) (fun x114 => Go.L.chk (x114.length < 4611686018427387904) (Go.L.chk ((isI x114).length ≤ 9223372036854775807) (Go.L.chk (Go.E.Cap 72 (l102.length + ([(((x74.getD s15_103.toNat default).1, (x74.getD s15_103.toNat default).2.1, (x74.getD s15_103.toNat default).2.2.1, (x74.getD s15_103.toNat default).2.2.2), (Lib.compact (isI x114)))]).length)) (Go.L.chk (Go.L.I64 (s15_103 + (1 : Int))) (some (Sum.inl ((l102 ++ [(((x74.getD s15_103.toNat default).1, (x74.getD s15_103.toNat default).2.1, (x74.getD s15_103.toNat default).2.2.1, (x74.getD s15_103.toNat default).2.2.2), (Lib.compact (isI x114)))]), (s15_103 + (1 : Int)))))))))) else Option.map Sum.inr ((shapes_build_k1 a0) l102)
theorem shapes_build_bl2_isE : @shapes_build_bl2_is = @shapes_build_bl2 := by
  unfold shapes_build_bl2_is shapes_build_bl2;simp only [isS_eq, isI_eq]
noncomputable instance (a0 : Int) (a1 : List (((List UInt8) × Int × Int × (List UInt8)) × (List Int))) (x74 : (List ((List UInt8) × Int × Int × (List UInt8)))) (s) : Mi (shapes_build_bl2_is a0 a1 x74 s) := by obtain ⟨l102, s15_103⟩ := s; delta shapes_build_bl2_is; dsimp only; infer_instance
noncomputable instance (a0 : Int) (a1 : List (((List UInt8) × Int × Int × (List UInt8)) × (List Int))) (x74 : (List ((List UInt8) × Int × Int × (List UInt8)))) (s) : Mi (shapes_build_bl2 a0 a1 x74 s) := ⟨(inferInstance : Mi (shapes_build_bl2_is a0 a1 x74 s)).c, by rw [← shapes_build_bl2_isE]; exact (inferInstance : Mi (shapes_build_bl2_is a0 a1 x74 s)).h⟩
noncomputable instance (a0 : Int) (a1 : List (((List UInt8) × Int × Int × (List UInt8)) × (List Int))) (x74 : (List ((List UInt8) × Int × Int × (List UInt8)))) (s : (List (((List UInt8) × Int × Int × (List UInt8)) × (List Int))) × Int) : Mi (shapes_build_l2 a0 a1 x74 s) := by delta shapes_build_l2; infer_instance
noncomputable instance (a0 : Int) (a1 : List (((List UInt8) × Int × Int × (List UInt8)) × (List Int))) : Mi (shapes_build a0 a1) := by delta shapes_build; infer_instance
noncomputable instance (a0 : List Go.L.Pv) (l68 : List (((List UInt8) × Int × Int × (List UInt8)) × (List Int))) : Mi (shapes_Build_k1 a0 l68) := by delta shapes_Build_k1; infer_instance
noncomputable instance (a0 : List Go.L.Pv) (s) : Mi (shapes_Build_bl2 a0 s) := by obtain ⟨l97, s16_98⟩ := s; delta shapes_Build_bl2; dsimp only; infer_instance
noncomputable instance (a0 : List Go.L.Pv) (s : (List (((List UInt8) × Int × Int × (List UInt8)) × (List Int))) × Int) : Mi (shapes_Build_l2 a0 s) := by delta shapes_Build_l2; infer_instance
noncomputable instance (a0 : List Go.L.Pv) : Mi (shapes_Build a0) := by delta shapes_Build; infer_instance
noncomputable instance (a0 : ((List UInt8) × Int × Int × (List UInt8)) × (List Int)) (a1 : Int) (a2 : Int) : Mi (shapes_Index_Number_1 a0 a1 a2) := by delta shapes_Index_Number_1; infer_instance
noncomputable def shapes_Index_collect_s2_k1_is (l58 : List Int) (c59 : Int) (c60 : Int) : Option ((List Int) × Int × Int) := 
  Go.L.chk (l58.length < 4611686018427387904) (Go.L.chk ((isI l58).length ≤ 9223372036854775807) (some ((Lib.compact (isI l58)), c59, c60)))
theorem shapes_Index_collect_s2_k1_isE : @shapes_Index_collect_s2_k1_is = @shapes_Index_collect_s2_k1 := by
  unfold shapes_Index_collect_s2_k1_is shapes_Index_collect_s2_k1;simp only [isS_eq, isI_eq]
noncomputable instance (l58 : List Int) (c59 : Int) (c60 : Int) : Mi (shapes_Index_collect_s2_k1_is l58 c59 c60) := by delta shapes_Index_collect_s2_k1_is; infer_instance
noncomputable instance (l58 : List Int) (c59 : Int) (c60 : Int) : Mi (shapes_Index_collect_s2_k1 l58 c59 c60) := ⟨(inferInstance : Mi (shapes_Index_collect_s2_k1_is l58 c59 c60)).c, by rw [← shapes_Index_collect_s2_k1_isE]; exact (inferInstance : Mi (shapes_Index_collect_s2_k1_is l58 c59 c60)).h⟩
noncomputable instance (a0 : Int × (List (((List UInt8) × Int × Int × (List UInt8)) × (List Int)))) (a1 : List UInt8) (s) : Mi (shapes_Index_collect_s2_bl2 a0 a1 s) := by obtain ⟨l88, c89, c90, s13_91⟩ := s; delta shapes_Index_collect_s2_bl2; dsimp only; infer_instance
noncomputable instance (a0 : Int × (List (((List UInt8) × Int × Int × (List UInt8)) × (List Int)))) (a1 : List UInt8) (s : (List Int) × Int × Int × Int) : Mi (shapes_Index_collect_s2_l2 a0 a1 s) := by delta shapes_Index_collect_s2_l2; infer_instance
noncomputable instance (a0 : Int × (List (((List UInt8) × Int × Int × (List UInt8)) × (List Int)))) (a1 : List UInt8) (a2_c0 : Int) (a2_c1 : Int) : Mi (shapes_Index_collect_s2 a0 a1 a2_c0 a2_c1) := by delta shapes_Index_collect_s2; infer_instance
noncomputable instance (a0 : Int × (List (((List UInt8) × Int × Int × (List UInt8)) × (List Int)))) (a1 : List UInt8) (a2 : Int) (a3 : Int) : Mi (shapes_Index_Number a0 a1 a2 a3) := by delta shapes_Index_Number; infer_instance
noncomputable instance (_a0 : ((List UInt8) × Int × Int × (List UInt8)) × (List Int)) : Mi (shapes_Index_Find_1 _a0) := by delta shapes_Index_Find_1; infer_instance
noncomputable def shapes_Index_collect_k1_is (l54 : List Int) : Option ((List Int)) := 
  Go.L.chk (l54.length < 4611686018427387904) (Go.L.chk ((isI l54).length ≤ 9223372036854775807) (some ((Lib.compact (isI l54)))))
theorem shapes_Index_collect_k1_isE : @shapes_Index_collect_k1_is = @shapes_Index_collect_k1 := by
  unfold shapes_Index_collect_k1_is shapes_Index_collect_k1;simp only [isS_eq, isI_eq]
noncomputable instance (l54 : List Int) : Mi (shapes_Index_collect_k1_is l54) := by delta shapes_Index_collect_k1_is; infer_instance
noncomputable instance (l54 : List Int) : Mi (shapes_Index_collect_k1 l54) := ⟨(inferInstance : Mi (shapes_Index_collect_k1_is l54)).c, by rw [← shapes_Index_collect_k1_isE]; exact (inferInstance : Mi (shapes_Index_collect_k1_is l54)).h⟩
noncomputable instance (a0 : Int × (List (((List UInt8) × Int × Int × (List UInt8)) × (List Int)))) (a1 : List UInt8) (s) : Mi (shapes_Index_collect_bl2 a0 a1 s) := by obtain ⟨l81, s13_82⟩ := s; delta shapes_Index_collect_bl2; dsimp only; infer_instance
noncomputable instance (a0 : Int × (List (((List UInt8) × Int × Int × (List UInt8)) × (List Int)))) (a1 : List UInt8) (s : (List Int) × Int) : Mi (shapes_Index_collect_l2 a0 a1 s) := by delta shapes_Index_collect_l2; infer_instance
noncomputable instance (a0 : Int × (List (((List UInt8) × Int × Int × (List UInt8)) × (List Int)))) (a1 : List UInt8) : Mi (shapes_Index_collect a0 a1) := by delta shapes_Index_collect; infer_instance
noncomputable instance (a0 : Int × (List (((List UInt8) × Int × Int × (List UInt8)) × (List Int)))) (a1 : List UInt8) : Mi (shapes_Index_Find a0 a1) := by delta shapes_Index_Find; infer_instance
noncomputable instance (a0 : ((List UInt8) × Int × Int × (List UInt8)) × (List Int)) (a1 : List UInt8) : Mi (shapes_Index_Text_1 a0 a1) := by delta shapes_Index_Text_1; infer_instance
noncomputable def shapes_Index_collect_s3_k1_is (l59 : List Int) (c60 : List UInt8) : Option ((List Int) × (List UInt8)) := 
  Go.L.chk (l59.length < 4611686018427387904) (Go.L.chk ((isI l59).length ≤ 9223372036854775807) (some ((Lib.compact (isI l59)), c60)))
theorem shapes_Index_collect_s3_k1_isE : @shapes_Index_collect_s3_k1_is = @shapes_Index_collect_s3_k1 := by
  unfold shapes_Index_collect_s3_k1_is shapes_Index_collect_s3_k1;simp only [isS_eq, isI_eq]
noncomputable instance (l59 : List Int) (c60 : List UInt8) : Mi (shapes_Index_collect_s3_k1_is l59 c60) := by delta shapes_Index_collect_s3_k1_is; infer_instance
noncomputable instance (l59 : List Int) (c60 : List UInt8) : Mi (shapes_Index_collect_s3_k1 l59 c60) := ⟨(inferInstance : Mi (shapes_Index_collect_s3_k1_is l59 c60)).c, by rw [← shapes_Index_collect_s3_k1_isE]; exact (inferInstance : Mi (shapes_Index_collect_s3_k1_is l59 c60)).h⟩
noncomputable instance (a0 : Int × (List (((List UInt8) × Int × Int × (List UInt8)) × (List Int)))) (a1 : List UInt8) (s) : Mi (shapes_Index_collect_s3_bl2 a0 a1 s) := by obtain ⟨l89, c90, s13_91⟩ := s; delta shapes_Index_collect_s3_bl2; dsimp only; infer_instance
noncomputable instance (a0 : Int × (List (((List UInt8) × Int × Int × (List UInt8)) × (List Int)))) (a1 : List UInt8) (s : (List Int) × (List UInt8) × Int) : Mi (shapes_Index_collect_s3_l2 a0 a1 s) := by delta shapes_Index_collect_s3_l2; infer_instance
noncomputable instance (a0 : Int × (List (((List UInt8) × Int × Int × (List UInt8)) × (List Int)))) (a1 : List UInt8) (a2_c0 : List UInt8) : Mi (shapes_Index_collect_s3 a0 a1 a2_c0) := by delta shapes_Index_collect_s3; infer_instance
noncomputable instance (a0 : Int × (List (((List UInt8) × Int × Int × (List UInt8)) × (List Int)))) (a1 : List UInt8) (a2 : List UInt8) : Mi (shapes_Index_Text a0 a1 a2) := by delta shapes_Index_Text; infer_instance
noncomputable instance (a0 : Int) (a1 : Int) : Mi (wire_fault a0 a1) := by delta wire_fault; infer_instance
noncomputable instance (a1 : Int) : Mi (wire_ReadNumber_k1 a1) := by delta wire_ReadNumber_k1; infer_instance
noncomputable instance (a0 : List UInt8) (a1 : Int) (s) : Mi (wire_ReadNumber_bl2 a0 a1 s) := by obtain ⟨s7_160, s19_161⟩ := s; delta wire_ReadNumber_bl2; dsimp only; repeat' first | (show Mi _; infer_instance) | refine @iB _ _ _ _ ?_ (fun _ => ?_) | refine @iC _ _ _ _ ?_ | refine @iI _ _ _ _ _ ?_ ?_
noncomputable instance (a0 : List UInt8) (a1 : Int) (s : Int × Int) : Mi (wire_ReadNumber_l2 a0 a1 s) := by delta wire_ReadNumber_l2; infer_instance
noncomputable instance (a0 : List UInt8) (a1 : Int) : Mi (wire_ReadNumber a0 a1) := by delta wire_ReadNumber; infer_instance
noncomputable instance (c26 : Int) (c27 : Int) (c28 : Int) : Mi (shapes_Open_k1 c26 c27 c28) := by delta shapes_Open_k1; infer_instance
noncomputable instance (a0 : List UInt8) (a1 : Int) : Mi (wire_ReadChunk a0 a1) := by delta wire_ReadChunk; infer_instance
noncomputable instance (l65 : List Int) (s12_66 : Int) : Mi (wreads_Number_k1 l65 s12_66) := by delta wreads_Number_k1; infer_instance
noncomputable instance (a0 : List UInt8) (x2 : Int × Int × (Int × Int)) (s) : Mi (wreads_Number_bl2 a0 x2 s) := by obtain ⟨l89, s12_90, s41_91⟩ := s; delta wreads_Number_bl2; dsimp only; infer_instance
noncomputable instance (a0 : List UInt8) (x2 : Int × Int × (Int × Int)) (s : (List Int) × Int × Int) : Mi (wreads_Number_l2 a0 x2 s) := by delta wreads_Number_l2; infer_instance
noncomputable instance (a0 : List UInt8) (a1 : Int) (a2 : Int) : Mi (wreads_Number a0 a1 a2) := by delta wreads_Number; infer_instance
noncomputable instance (x111 : (List Int) × Int × (Int × Int)) (c123 : List UInt8) (c124 : Int) (c125 : Int) (c126 : List UInt8) (s5_128 : Int) : Mi (shapes_readEntry_k5 x111 c123 c124 c125 c126 s5_128) := by delta shapes_readEntry_k5; infer_instance
noncomputable instance (x84 : (List UInt8) × Int × (Int × Int)) (c95 : List UInt8) (c96 : Int) (c97 : Int) (c98 : List UInt8) (s5_100 : Int) : Mi (shapes_readEntry_k4 x84 c95 c96 c97 c98 s5_100) := by delta shapes_readEntry_k4; infer_instance
noncomputable instance (x57 : Int × Int × (Int × Int)) (c69 : List UInt8) (c70 : Int) (c71 : Int) (c72 : List UInt8) (s5_74 : Int) : Mi (shapes_readEntry_k3 x57 c69 c70 c71 c72 s5_74) := by delta shapes_readEntry_k3; infer_instance
noncomputable instance (x30 : Int × Int × (Int × Int)) (c42 : List UInt8) (c43 : Int) (c44 : Int) (c45 : List UInt8) (s5_47 : Int) : Mi (shapes_readEntry_k2 x30 c42 c43 c44 c45 s5_47) := by delta shapes_readEntry_k2; infer_instance
noncomputable instance (x3 : (List UInt8) × Int × (Int × Int)) (c14 : List UInt8) (c15 : Int) (c16 : Int) (c17 : List UInt8) (s5_19 : Int) : Mi (shapes_readEntry_k1 x3 c14 c15 c16 c17 s5_19) := by delta shapes_readEntry_k1; infer_instance
noncomputable instance (a0 : List UInt8) (a1 : Int) : Mi (shapes_readEntry a0 a1) := by delta shapes_readEntry; infer_instance
noncomputable instance (l69 : List (((List UInt8) × Int × Int × (List UInt8)) × (List Int))) (s12_70 : Int) : Mi (wreads_entry_k1 l69 s12_70) := by delta wreads_entry_k1; infer_instance
noncomputable instance (a0 : List UInt8) (x2 : Int × Int × (Int × Int)) (s) : Mi (wreads_entry_bl2 a0 x2 s) := by obtain ⟨l95, s12_96, s41_97⟩ := s; delta wreads_entry_bl2; dsimp only; infer_instance
noncomputable instance (a0 : List UInt8) (x2 : Int × Int × (Int × Int)) (s : (List (((List UInt8) × Int × Int × (List UInt8)) × (List Int))) × Int × Int) : Mi (wreads_entry_l2 a0 x2 s) := by delta wreads_entry_l2; infer_instance
noncomputable instance (a0 : List UInt8) (a1 : Int) (a2 : Int) : Mi (wreads_entry a0 a1 a2) := by delta wreads_entry; infer_instance
noncomputable instance  : Mi (shapes_entry_valid_k1) := by delta shapes_entry_valid_k1; infer_instance
noncomputable instance (a0 : ((List UInt8) × Int × Int × (List UInt8)) × (List Int)) (a1 : Int) (s) : Mi (shapes_entry_valid_bl2 a0 a1 s) := by delta shapes_entry_valid_bl2; infer_instance
noncomputable instance (a0 : ((List UInt8) × Int × Int × (List UInt8)) × (List Int)) (a1 : Int) (s : Int) : Mi (shapes_entry_valid_l2 a0 a1 s) := by delta shapes_entry_valid_l2; infer_instance
noncomputable instance  : Mi (shapes_entry_valid_k3) := by delta shapes_entry_valid_k3; infer_instance
noncomputable instance (a0 : ((List UInt8) × Int × Int × (List UInt8)) × (List Int)) (a1 : Int) (s) : Mi (shapes_entry_valid_bl4 a0 a1 s) := by delta shapes_entry_valid_bl4; infer_instance
noncomputable instance (a0 : ((List UInt8) × Int × Int × (List UInt8)) × (List Int)) (a1 : Int) (s : Int) : Mi (shapes_entry_valid_l4 a0 a1 s) := by delta shapes_entry_valid_l4; infer_instance
noncomputable instance  : Mi (shapes_entry_valid_k5) := by delta shapes_entry_valid_k5; infer_instance
noncomputable instance (a0 : ((List UInt8) × Int × Int × (List UInt8)) × (List Int)) (a1 : Int) (s) : Mi (shapes_entry_valid_bl6 a0 a1 s) := by delta shapes_entry_valid_bl6; infer_instance
noncomputable instance (a0 : ((List UInt8) × Int × Int × (List UInt8)) × (List Int)) (a1 : Int) (s : Int) : Mi (shapes_entry_valid_l6 a0 a1 s) := by delta shapes_entry_valid_l6; infer_instance
noncomputable instance  : Mi (shapes_entry_valid_k19) := by delta shapes_entry_valid_k19; infer_instance
noncomputable instance (a0 : ((List UInt8) × Int × Int × (List UInt8)) × (List Int)) (a1 : Int) (s) : Mi (shapes_entry_valid_bl20 a0 a1 s) := by delta shapes_entry_valid_bl20; infer_instance
noncomputable instance (a0 : ((List UInt8) × Int × Int × (List UInt8)) × (List Int)) (a1 : Int) (s : Int) : Mi (shapes_entry_valid_l20 a0 a1 s) := by delta shapes_entry_valid_l20; infer_instance
noncomputable instance  : Mi (shapes_entry_valid_k17) := by delta shapes_entry_valid_k17; infer_instance
noncomputable instance (a0 : ((List UInt8) × Int × Int × (List UInt8)) × (List Int)) (a1 : Int) (s) : Mi (shapes_entry_valid_bl18 a0 a1 s) := by delta shapes_entry_valid_bl18; infer_instance
noncomputable instance (a0 : ((List UInt8) × Int × Int × (List UInt8)) × (List Int)) (a1 : Int) (s : Int) : Mi (shapes_entry_valid_l18 a0 a1 s) := by delta shapes_entry_valid_l18; infer_instance
noncomputable instance  : Mi (shapes_entry_valid_k15) := by delta shapes_entry_valid_k15; infer_instance
noncomputable instance (a0 : ((List UInt8) × Int × Int × (List UInt8)) × (List Int)) (a1 : Int) (s) : Mi (shapes_entry_valid_bl16 a0 a1 s) := by delta shapes_entry_valid_bl16; infer_instance
noncomputable instance (a0 : ((List UInt8) × Int × Int × (List UInt8)) × (List Int)) (a1 : Int) (s : Int) : Mi (shapes_entry_valid_l16 a0 a1 s) := by delta shapes_entry_valid_l16; infer_instance
noncomputable instance  : Mi (shapes_entry_valid_k13) := by delta shapes_entry_valid_k13; infer_instance
noncomputable instance (a0 : ((List UInt8) × Int × Int × (List UInt8)) × (List Int)) (a1 : Int) (s) : Mi (shapes_entry_valid_bl14 a0 a1 s) := by delta shapes_entry_valid_bl14; infer_instance
noncomputable instance (a0 : ((List UInt8) × Int × Int × (List UInt8)) × (List Int)) (a1 : Int) (s : Int) : Mi (shapes_entry_valid_l14 a0 a1 s) := by delta shapes_entry_valid_l14; infer_instance
noncomputable instance  : Mi (shapes_entry_valid_k11) := by delta shapes_entry_valid_k11; infer_instance
noncomputable instance (a0 : ((List UInt8) × Int × Int × (List UInt8)) × (List Int)) (a1 : Int) (s) : Mi (shapes_entry_valid_bl12 a0 a1 s) := by delta shapes_entry_valid_bl12; infer_instance
noncomputable instance (a0 : ((List UInt8) × Int × Int × (List UInt8)) × (List Int)) (a1 : Int) (s : Int) : Mi (shapes_entry_valid_l12 a0 a1 s) := by delta shapes_entry_valid_l12; infer_instance
noncomputable instance  : Mi (shapes_entry_valid_k9) := by delta shapes_entry_valid_k9; infer_instance
noncomputable instance (a0 : ((List UInt8) × Int × Int × (List UInt8)) × (List Int)) (a1 : Int) (s) : Mi (shapes_entry_valid_bl10 a0 a1 s) := by delta shapes_entry_valid_bl10; infer_instance
noncomputable instance (a0 : ((List UInt8) × Int × Int × (List UInt8)) × (List Int)) (a1 : Int) (s : Int) : Mi (shapes_entry_valid_l10 a0 a1 s) := by delta shapes_entry_valid_l10; infer_instance
noncomputable instance  : Mi (shapes_entry_valid_k7) := by delta shapes_entry_valid_k7; infer_instance
noncomputable instance (a0 : ((List UInt8) × Int × Int × (List UInt8)) × (List Int)) (a1 : Int) (s) : Mi (shapes_entry_valid_bl8 a0 a1 s) := by delta shapes_entry_valid_bl8; infer_instance
noncomputable instance (a0 : ((List UInt8) × Int × Int × (List UInt8)) × (List Int)) (a1 : Int) (s : Int) : Mi (shapes_entry_valid_l8 a0 a1 s) := by delta shapes_entry_valid_l8; infer_instance
noncomputable instance (a0 : ((List UInt8) × Int × Int × (List UInt8)) × (List Int)) (a1 : Int) : Mi (shapes_entry_valid a0 a1) := by delta shapes_entry_valid; infer_instance
noncomputable instance (c255 : Int) (c256 : Int) (c257 : Int) : Mi (shapes_Open_k5 c255 c256 c257) := by delta shapes_Open_k5; infer_instance
noncomputable instance (a0 : List UInt8) (a1 : List UInt8) : Mi (internal_bytealg_CompareString a0 a1) := by delta internal_bytealg_CompareString; infer_instance
noncomputable instance (a0 : List UInt8) (a1 : List UInt8) : Mi (strings_Compare a0 a1) := by delta strings_Compare; infer_instance
noncomputable instance (a0 : Int) : Mi (cmp_isNaN_int a0) := by delta cmp_isNaN_int; infer_instance
noncomputable instance (a0 : Int) (a1 : Int) : Mi (cmp_Compare_int a0 a1) := by delta cmp_Compare_int; infer_instance
noncomputable instance  : Mi (cmp_Or_int_k1) := by delta cmp_Or_int_k1; infer_instance
noncomputable instance (a0 : List Int) (s) : Mi (cmp_Or_int_bl2 a0 s) := by delta cmp_Or_int_bl2; infer_instance
noncomputable instance (a0 : List Int) (s : Int) : Mi (cmp_Or_int_l2 a0 s) := by delta cmp_Or_int_l2; infer_instance
noncomputable instance (a0 : List Int) : Mi (cmp_Or_int a0) := by delta cmp_Or_int; infer_instance
noncomputable instance (a0 : (List UInt8) × Int × Int × (List UInt8)) (a1 : (List UInt8) × Int × Int × (List UInt8)) : Mi (shapes_leaf_compare a0 a1) := by delta shapes_leaf_compare; infer_instance
noncomputable instance (c286 : Int) (c287 : Int) (c288 : Int) : Mi (shapes_Open_k6 c286 c287 c288) := by delta shapes_Open_k6; infer_instance
noncomputable instance (a0 : List UInt8) (a1 : List UInt8) : Mi (bytes_Equal a0 a1) := by delta bytes_Equal; infer_instance
noncomputable instance (c322 : Int) (c323 : Int) (c324 : Int) : Mi (shapes_Open_k7 c322 c323 c324) := by delta shapes_Open_k7; infer_instance
noncomputable instance (a0 : List UInt8) (x10 : (Int × Int)) (x14 : Int × Int × (Int × Int)) (x39 : (List (((List UInt8) × Int × Int × (List UInt8)) × (List Int))) × Int × (Int × Int)) : Mi (shapes_Open_k3 a0 x10 x14 x39) := by delta shapes_Open_k3; infer_instance
noncomputable instance (a0 : List UInt8) (x10 : (Int × Int)) (x14 : Int × Int × (Int × Int)) (x39 : (List (((List UInt8) × Int × Int × (List UInt8)) × (List Int))) × Int × (Int × Int)) (s) : Mi (shapes_Open_bl4 a0 x10 x14 x39 s) := by delta shapes_Open_bl4; infer_instance
noncomputable instance (a0 : List UInt8) (x10 : (Int × Int)) (x14 : Int × Int × (Int × Int)) (x39 : (List (((List UInt8) × Int × Int × (List UInt8)) × (List Int))) × Int × (Int × Int)) (s : Int) : Mi (shapes_Open_l4 a0 x10 x14 x39 s) := by delta shapes_Open_l4; infer_instance
noncomputable instance (c50 : Int) (c51 : Int) (c52 : Int) : Mi (shapes_Open_k2 c50 c51 c52) := by delta shapes_Open_k2; infer_instance
noncomputable instance (a0 : List UInt8) : Mi (shapes_Open a0) := by delta shapes_Open; infer_instance
noncomputable instance  : Mi (ref4_Texts_k1) := by delta ref4_Texts_k1; infer_instance
noncomputable instance (a0 : List (List UInt8)) (a1 : List (List UInt8)) (s) : Mi (ref4_Texts_bl2 a0 a1 s) := by delta ref4_Texts_bl2; infer_instance
noncomputable instance (a0 : List (List UInt8)) (a1 : List (List UInt8)) (s : Int) : Mi (ref4_Texts_l2 a0 a1 s) := by delta ref4_Texts_l2; infer_instance
noncomputable instance (a0 : List (List UInt8)) (a1 : List (List UInt8)) : Mi (ref4_Texts a0 a1) := by delta ref4_Texts; infer_instance
noncomputable instance  : Mi (ref3_Ints_k1) := by delta ref3_Ints_k1; infer_instance
noncomputable instance (a0 : List Int) (a1 : List Int) (s) : Mi (ref3_Ints_bl2 a0 a1 s) := by delta ref3_Ints_bl2; infer_instance
noncomputable instance (a0 : List Int) (a1 : List Int) (s : Int) : Mi (ref3_Ints_l2 a0 a1 s) := by delta ref3_Ints_l2; infer_instance
noncomputable instance (a0 : List Int) (a1 : List Int) : Mi (ref3_Ints a0 a1) := by delta ref3_Ints; infer_instance
noncomputable instance (a0 : Int × (List (((List UInt8) × Int × Int × (List UInt8)) × (List Int)))) : Mi (shapes_Index_Items a0) := by delta shapes_Index_Items; infer_instance
noncomputable instance (a0 : Int) (a1 : Int) : Mi (ref3_At a0 a1) := by delta ref3_At; infer_instance
noncomputable instance  : Mi (law4_shaped) := by delta law4_shaped; repeat' first | (show Mi _; infer_instance) | refine @iB _ _ _ _ ?_ (fun _ => ?_) | refine @iC _ _ _ _ ?_ | refine @iI _ _ _ _ _ ?_ ?_
theorem shaped_true : law4_shaped = some true := (inferInstance : Mi law4_shaped).h true (by kernel_rfl)
end Go.Proofs.YtmfiaecglndldaaGreatDoor
end
section
namespace Go.Proofs.YtmfiaecglndldaaGreatDoor
open Go Go.L
theorem cmp_irr {a : Lf} : ¬ lfCmp a a < 0 := fun h => by have := ordLf.swap a a; omega
theorem srtL_self {l : List Lf} (h : l.Pairwise (fun a b => lfCmp a b < 0)) : srtL l = l := by
  rw [← isL_eq]
  have hs : l.Pairwise (fun x y => (fun x y => !(Go.Proofs.ltOf lfCmp) y x) x y = true) := h.imp fun {a b} hab => by
    have := ordLf.swap a b;simp only [Go.Proofs.ltOf, Bool.not_eq_true', decide_eq_false_iff_not];omega
  rw [isL_eq]
  exact sorted_eq (le := fun x y => !(Go.Proofs.ltOf lfCmp) y x) (fun a b h1 h2 => ordLf.parts a b (by simpa using h2) (by simpa using h1)) (List.mergeSort_perm l _) (by
    have := isL_eq l
    have hsorted : (srtL l).Pairwise fun x y => (!(Go.Proofs.ltOf lfCmp) y x) = true := by
      rw [← this];have hlt : ∀ a b, (!(Go.Proofs.ltOf lfCmp) b a) = true ↔ ¬ lfCmp b a < 0 := fun a b => by simp [Go.Proofs.ltOf]
      refine isB_sorted (fun a b c h1 h2 => ?_) (fun a b => ?_) l
      · rw [hlt] at *;intro h3;have s1 := ordLf.swap a b
        rcases Int.lt_trichotomy (lfCmp a b) 0 with h4 | h4 | h4
        · exact h2 (ordLf.trans c a b h3 h4)
        · rw [ordLf.zero a b h4] at h3; exact h2 h3
        · omega
      · rw [hlt, hlt];have s1 := ordLf.swap a b;omega
    exact hsorted) hs
theorem inc_len : ∀ {l : List Int} {lo n : Int}, l.Pairwise (fun a b => a < b) → (∀ z ∈ l, lo ≤ z ∧ z < n) → lo ≤ n → (l.length : Int) ≤ n - lo
  | [], lo, n, _, _, h => by simp; omega
  | a :: l, lo, n, hp, hz, h => by
    obtain ⟨p1, p2⟩ := List.pairwise_cons.1 hp;have ha := hz a (.head _);have := inc_len (lo := a + 1) (n := n) p2 (fun z hzz => ⟨by have := p1 z hzz; omega, (hz z (.tail _ hzz)).2⟩) (by omega);simp only [List.length_cons];omega
theorem GI.few {n : Int} {es : List En} (h : GI n es) : ∀ e ∈ es, e.2.length ≤ 64 := fun e he => by
  have := inc_len (lo := 0) (n := n) (h.ev e he).inc (h.ev e he).items h.n0;have := h.n64;omega
theorem lform_pos (e : En) : 1 ≤ (lform e).length := by
  unfold lform chunkF;simp only [List.flatten_cons, List.length_append]
  have : 1 ≤ (vint (zz (e.1.1.length : Int))).length := by
    unfold vint vintN; split <;> simp
  omega
theorem iform_count (n : Int) (es : List En) : es.length ≤ (iform n es).length := by
  unfold iform;simp only [List.length_append]
  have : es.length ≤ (es.flatMap lform).length := by
    induction es with
    | nil => simp
    | cons e l ih => rw [List.flatMap_cons, List.length_append, List.length_cons]; have := lform_pos e; omega
  omega
end Go.Proofs.YtmfiaecglndldaaGreatDoor
end
section
namespace Go.L
/-- Steps with slashes between them. -/
def jn : List (List UInt8) → List UInt8
  | [] => []
  | x :: l => if l = [] then x else x ++ 47 :: jn l
theorem jn_snoc : ∀ (l : List (List UInt8)) (x : List UInt8), jn (l ++ [x]) = if l = [] then x else jn l ++ 47 :: x
  | [], x => by simp [jn]
  | y :: l, x => by
    have ih := jn_snoc l x;simp only [List.cons_append, jn, List.append_eq_nil_iff, List.cons_ne_nil, and_false, if_false, reduceCtorEq];rw [ih]
    by_cases h : l = []
    · subst h; simp
    · simp [h]
theorem jn_len : ∀ {l : List (List UInt8)}, l ≠ [] → (jn l).length + 1 = tot l
  | x :: l, _ => by
    unfold jn tot
    by_cases h : l = []
    · subst h; simp [tot]
    · have := jn_len h;rw [if_neg h, List.length_append, List.length_cons];omega
theorem pcs_slash : ∀ (x cur s : List UInt8), 47 ∉ x → pcs cur (x ++ 47 :: s) = (cur ++ x) :: pcs [] s
  | [], cur, s, _ => by simp [pcs]
  | c :: x, cur, s, h => by
    have hc : c ≠ 47 := fun e => h (by rw [e]; exact .head _);simp only [List.cons_append, pcs, if_neg hc];rw [pcs_slash x (cur ++ [c]) s (fun hh => h (.tail _ hh))];simp
theorem pcs_last : ∀ (x cur : List UInt8), 47 ∉ x → pcs cur x = [cur ++ x]
  | [], cur, _ => by simp [pcs]
  | c :: x, cur, h => by
    have hc : c ≠ 47 := fun e => h (by rw [e]; exact .head _);simp only [pcs, if_neg hc];rw [pcs_last x (cur ++ [c]) (fun hh => h (.tail _ hh))];simp
theorem pcs_jn : ∀ {l : List (List UInt8)}, l ≠ [] → (∀ x ∈ l, 47 ∉ x) → pcs [] (jn l) = l
  | x :: l, _, h => by
    unfold jn
    by_cases hl : l = []
    · subst hl;rw [if_pos rfl, pcs_last x [] (h x (.head _))]; simp
    · rw [if_neg hl, pcs_slash x [] _ (h x (.head _)), pcs_jn hl (fun y hy => h y (.tail _ hy))]; simp
theorem sl_jn {l : List (List UInt8)} (hne : ∀ x ∈ l, x ≠ []) (h : ∀ x ∈ l, 47 ∉ x) : sl (jn l) = l := by
  unfold sl
  cases l with
  | nil => simp [jn]
  | cons x l =>
    have : jn (x :: l) ≠ [] := by
      unfold jn;have := hne x (.head _)
      split
      · exact this
      · simp
    rw [if_neg this, pcs_jn (by simp) h]
/-- A step of a path. -/
def stp (x : List UInt8) : Bool := nok x || decide (x = [35])
theorem stp_ne {x : List UInt8} (h : stp x = true) : x ≠ [] ∧ 47 ∉ x ∧ x ≠ [42] ∧ x ≠ [42, 42] := by
  unfold stp at h;rw [Bool.or_eq_true, decide_eq_true_eq] at h
  rcases h with h | rfl
  · unfold nok at h;rw [Bool.and_eq_true, decide_eq_true_eq] at h;obtain ⟨h1, h2⟩ := h;have hall := List.all_eq_true.1 h2;refine ⟨fun e => by subst e; simp at h1, fun hh => ?_, fun e => by subst e; simp at h1, fun e => by subst e; simp at h1⟩;have := hall 47 hh
    revert this; decide
  · decide
theorem wr_ok {w : Bool} {l : List (List UInt8)} : ∀ {a : Int}, (∀ x ∈ l, (stp x || (w && (decide (x = [42]) || decide (x = [42, 42])))) = true) → wr w a l = -1 := by
  induction l with
  | nil => intro a _; rfl
  | cons y l ih =>
    intro a h;unfold wr;have := h y (.head _);unfold stp at this;rw [if_pos this];exact ih (fun x hx => h x (.tail _ hx))
end Go.L
end
section
namespace Go.L
theorem sum_drop {α : Type} [Inhabited α] (f : α → Nat) {l : List α} {i : Nat} (h : i < l.length) : ((l.drop i).map f).sum = f (l.getD i default) + ((l.drop (i + 1)).map f).sum := by rw [drop_cons h]; simp
end Go.L
namespace Go.Proofs.YtmfiaecglndldaaGreatDoor
open Go Go.L
theorem chk_loop {d : Nat} {v : Pv} {a2 : Int} {self : Pv → Int → Int → Option (Int × (Int × Int))} (hlen : v.f.2.2.2.2.length ≤ 1000) (ha : I64 (a2 + 1))
    (hs : ∀ p ∈ v.f.2.2.2.2, ∀ m : Int, 0 ≤ m → ∃ r, self p m (a2 + 1) = some r ∧ ((r.2 = (0, 0) ∧ Vd d p ∧ r.1 = m + (nodes d p : Nat) ∧ r.1 ≤ 600) ∨ r.2.1 ≠ 0)) :
    ∀ (k i : Nat) (m : Int), i + k = v.f.2.2.2.2.length → 0 ≤ m → m ≤ 600 → ∃ r, Go.L.run (value_check_body_bl2 v a2 self) (m, (i : Int)) = some r ∧ ((r.2 = (0, 0) ∧ (∀ p ∈ v.f.2.2.2.2.drop i, Vd d p) ∧ r.1 = m + (((v.f.2.2.2.2.drop i).map (nodes d)).sum : Nat) ∧ r.1 ≤ 600) ∨ r.2.1 ≠ 0)
  | 0, i, m, hi, h0, h6 => by
    refine ⟨(m, 0, 0), run_inr (m := some (m, 0, 0)) ?_, .inl ⟨rfl, ?_⟩⟩
    · unfold value_check_body_bl2 value_check_body_k1;dsimp only;rw [if_neg (by omega)]
    · rw [List.drop_eq_nil_of_le (by omega)];exact ⟨by simp, by simp, h6⟩
  | k + 1, i, m, hi, h0, h6 => by
    have hil : i < v.f.2.2.2.2.length := by omega
    obtain ⟨r, h1, h2⟩ := hs _ (getD_mem hil) m h0
    rcases h2 with ⟨hr, g1, g2, g3⟩ | hr
    · have hb : value_check_body_bl2 v a2 self (m, (i : Int)) = some (.inl (r.1, ((i + 1 : Nat) : Int))) := by
        unfold value_check_body_bl2;dsimp only;rw [if_pos (by omega), chk_pos (by omega), chk_pos ha, Int.toNat_natCast, h1, Option.bind_some, if_pos (by rw [hr]; exact ⟨rfl, rfl⟩), chk_pos (by unfold I64; omega)]
        rfl
      obtain ⟨q, k1, k2⟩ := chk_loop hlen ha hs k (i + 1) r.1 (by omega) (by omega) g3;refine ⟨q, by rw [run_inl hb, k1], ?_⟩
      rcases k2 with ⟨hq, l1, l2, l3⟩ | hq
      rotate_left
      · exact .inr hq
      rw [drop_cons hil];refine .inl ⟨hq, fun p hp => ?_, ?_, l3⟩
      · rcases List.mem_cons.1 hp with rfl | hp
        · exact g1
        · exact l1 p hp
      · rw [List.map_cons, List.sum_cons, l2, g2]; omega
    · refine ⟨(0, r.2.1, r.2.2), run_inr (m := some (0, r.2.1, r.2.2)) ?_, .inr hr⟩;unfold value_check_body_bl2;dsimp only;rw [if_pos (by omega), chk_pos (by omega), chk_pos ha, Int.toNat_natCast, h1, Option.bind_some, if_neg (fun hh => hr hh.1)]
theorem chk_ex {B : Nat} (hB : B ≤ 100000000000) : ∀ (d n : Nat) (v : Pv) (m : Int), d < n → Sm B d v → d ≤ 10 → 0 ≤ m → ∃ r, value_check_n n v m (11 - (d : Int)) = some r ∧ ((r.2 = (0, 0) ∧ Vd d v ∧ r.1 = m + (nodes d v : Nat) ∧ r.1 ≤ 600) ∨ r.2.1 ≠ 0)
  | _, 0, _, _, h, _, _, _ => absurd h (by omega)
  | 0, n + 1, v, m, _, _, _, _ => by
    refine ⟨(0, 2, m), ?_, .inr (by simp)⟩
    show value_check_body (value_check_n n) v m _ = _
    unfold value_check_body;rw [if_pos (by right; omega)]
    rfl
  | d + 1, n + 1, v, m, hn, hs, hd, hm => by
    obtain ⟨s1, s2, s3, s4, s5, s6, s7⟩ := hs
    show ∃ r, value_check_body (value_check_n n) v m _ = some r ∧ _
    unfold value_check_body
    by_cases h1 : (600 : Int) ≤ m
    · rw [if_pos (.inl h1)];exact ⟨(0, 2, m), rfl, .inr (by simp)⟩
    · rw [if_neg (by omega)];obtain ⟨c, h2, h3⟩ := checkNode_ex v (by omega);rw [h2, Option.bind_some]
      by_cases hc : c = 0
      · rw [if_pos hc, chk_pos (by unfold I64; omega)];have hok := h3 hc
        obtain ⟨r, k1, k2⟩ := chk_loop (d := d) (v := v) (a2 := 11 - ((d + 1 : Nat) : Int)) (self := value_check_n n) (by have := hok.many; omega) (by unfold I64; omega)
          (fun p hp q hq => by
            have := chk_ex hB d n p q (by omega) (s7 p hp) (by omega) hq
            rwa [show (11 : Int) - ((d + 1 : Nat) : Int) + 1 = 11 - (d : Int) by omega]) v.f.2.2.2.2.length 0 (m + 1) (by omega) (by omega) (by omega)
        refine ⟨r, k1, ?_⟩
        rcases k2 with ⟨hr, l1, l2, l3⟩ | hr
        rotate_left
        · exact .inr hr
        rw [List.drop_zero] at l1 l2;refine .inl ⟨hr, ⟨hok, l1⟩, ?_, l3⟩;rw [l2];unfold nodes;omega
      · rw [if_neg hc];exact ⟨(0, c, m), rfl, .inr hc⟩
/-! ### Encoding -/
theorem chunk_ex {B : Nat} (hB : B ≤ 100000000000) {b : List UInt8} (h : b.length ≤ B) : wire_Chunk b = some (vint (zz (b.length : Int)) ++ b) := by
  unfold wire_Chunk;have := vint_len (zz (b.length : Int));rw [number_eq (by unfold I64; omega), Option.bind_some, chk_pos (by unfold Go.E.Cap; omega)]
theorem enc_loop {B d : Nat} (hB : B ≤ 100000000000) {v : Pv} {self : Pv → Option (List UInt8)} (hlen : v.f.2.2.2.2.length ≤ 600) (hsame : v.f.1 = 4 → v.f.2.2.2.1.length = v.f.2.2.2.2.length) (hnm : ∀ x ∈ v.f.2.2.2.1, x.length ≤ 32)
    (hnod : ((v.f.2.2.2.2).map (nodes d)).sum ≤ 600)
    (hs : ∀ p ∈ v.f.2.2.2.2, ∃ b, self p = some b ∧ b.length + 42 ≤ nodes d p * (B + 100)) :
    ∀ (k i : Nat) (L : List UInt8) (C : Nat), i + k = v.f.2.2.2.2.length → C ≤ 700 → L.length + 42 + (((v.f.2.2.2.2.drop i).map (nodes d)).sum) * (B + 100) ≤ C * (B + 100) → ∃ b, Go.L.run (value_encode_body_bl2 v self) (L, (i : Int)) = some b ∧ b.length + 42 ≤ C * (B + 100)
  | 0, i, L, C, hi, hC, hL => by
    refine ⟨L, run_inr (m := some L) ?_, by omega⟩;unfold value_encode_body_bl2 value_encode_body_k1;dsimp only;rw [if_neg (by omega)]
  | k + 1, i, L, C, hi, hC, hL => by
    have hil : i < v.f.2.2.2.2.length := by omega
    obtain ⟨b, h1, h2⟩ := hs _ (getD_mem hil);rw [sum_drop _ hil, Nat.add_mul] at hL;have hCB : C * (B + 100) ≤ 700 * (100000000000 + 100) := Nat.mul_le_mul hC (by omega)
    have hk3 : ∀ M : List UInt8, M.length + b.length + 42 + ((v.f.2.2.2.2.drop (i + 1)).map (nodes d)).sum * (B + 100) ≤ C * (B + 100) → value_encode_body_k3 v (i : Int) self M = some (.inl (M ++ b, ((i + 1 : Nat) : Int))) := by
      intro M hM;unfold value_encode_body_k3;rw [Int.toNat_natCast, h1, Option.bind_some, chk_pos (by unfold Go.E.Cap; omega), chk_pos (by unfold I64; omega)]
      rfl
    by_cases h4 : v.f.1 = 4
    · have hin : i < v.f.2.2.2.1.length := by rw [hsame h4]; exact hil
      have hx := hnm _ (getD_mem hin);have hv := vint_len (zz ((v.f.2.2.2.1.getD i default).length : Int))
      have hb : value_encode_body_bl2 v self (L, (i : Int)) = some (.inl ((L ++ (vint (zz ((v.f.2.2.2.1.getD i default).length : Int)) ++ v.f.2.2.2.1.getD i default)) ++ b, ((i + 1 : Nat) : Int))) := by
        unfold value_encode_body_bl2;dsimp only;rw [if_pos (by omega), chk_pos (by omega), if_pos h4, chk_pos (by omega), Int.toNat_natCast, chk_pos (by omega), chunk_ex (B := 32) (by decide) hx, Option.bind_some, chk_pos (by unfold Go.E.Cap; simp only [List.length_append]; omega)];exact hk3 _ (by simp only [List.length_append]; omega)
      obtain ⟨q, k1, k2⟩ := enc_loop hB hlen hsame hnm hnod hs k (i + 1) _ C (by omega) hC (show ((L ++ (vint (zz ((v.f.2.2.2.1.getD i default).length : Int)) ++ v.f.2.2.2.1.getD i default)) ++ b).length + 42 + _ ≤ _ by simp only [List.length_append]; omega);exact ⟨q, by rw [run_inl hb, k1], k2⟩
    · have hb : value_encode_body_bl2 v self (L, (i : Int)) = some (.inl (L ++ b, ((i + 1 : Nat) : Int))) := by
        unfold value_encode_body_bl2;dsimp only;rw [if_pos (by omega), chk_pos (by omega), if_neg h4];exact hk3 _ (by omega)
      obtain ⟨q, k1, k2⟩ := enc_loop hB hlen hsame hnm hnod hs k (i + 1) _ C (by omega) hC (show (L ++ b).length + 42 + _ ≤ _ by simp only [List.length_append]; omega);exact ⟨q, by rw [run_inl hb, k1], k2⟩
theorem nok_len {x : List UInt8} (h : nok x = true) : x.length ≤ 32 := by
  unfold nok at h;rw [Bool.and_eq_true, decide_eq_true_eq] at h;omega
theorem nodes_mem {d : Nat} {l : List Pv} {p : Pv} (h : p ∈ l) : nodes d p ≤ (l.map (nodes d)).sum := by
  induction l with
  | nil => cases h
  | cons a l ih =>
    rw [List.map_cons, List.sum_cons]
    rcases List.mem_cons.1 h with rfl | h
    · omega
    · have := ih h; omega
theorem enc_ex {B : Nat} (hB : B ≤ 100000000000) : ∀ (d n : Nat) (v : Pv), d ≤ n → Sm B d v → Vd d v → nodes d v ≤ 600 → ∃ b, value_encode_n n v = some b ∧ b.length + 42 ≤ nodes d v * (B + 100)
  | 0, _, _, _, _, h, _ => h.elim
  | d + 1, 0, _, h, _, _, _ => absurd h (by omega)
  | d + 1, n + 1, v, hn, hs, hv, hnod => by
    obtain ⟨s1, s2, s3, s4, s5, s6, s7⟩ := hs;obtain ⟨hok, hvp⟩ := hv;unfold nodes at hnod
    show ∃ b, value_encode_body (value_encode_n n) v = some b ∧ _
    unfold value_encode_body;have l1 := vint_len (zz v.f.1);have l2 := vint_len (zz v.f.2.1);have l3 := vint_len (zz (v.f.2.2.1.length : Int));have l4 := vint_len (zz (v.f.2.2.2.2.length : Int));have hN : 1 * (B + 100) ≤ nodes (d + 1) v * (B + 100) := Nat.mul_le_mul_right _ (by unfold nodes; omega);rw [number_eq s5, Option.bind_some]
    by_cases k1 : v.f.1 = 1
    · rw [if_pos k1, number_eq s6, Option.bind_some, chk_pos (by unfold Go.E.Cap; omega)];exact ⟨_, rfl, by simp only [List.length_append]; omega⟩
    · rw [if_neg k1]
      by_cases k2 : v.f.1 = 2
      · rw [if_pos k2, chunk_ex hB s1, Option.bind_some, chk_pos (by unfold Go.E.Cap; simp only [List.length_append]; omega)];exact ⟨_, rfl, by simp only [List.length_append]; omega⟩
      · have hmany := hok.many;rw [if_neg k2, number_eq (by unfold I64; omega), Option.bind_some, chk_pos (by unfold Go.E.Cap; omega)]
        obtain ⟨b, h1, h2⟩ := enc_loop (d := d) hB (v := v) (self := value_encode_n n) hok.many hok.same (fun x hx => nok_len (hok.nok x hx)) (by omega)
          (fun p hp => enc_ex hB d n p (by omega) (s7 p hp) (hvp p hp) (by have := nodes_mem (d := d) hp; omega)) v.f.2.2.2.2.length 0 (vint (zz v.f.1) ++ vint (zz (v.f.2.2.2.2.length : Int))) ((v.f.2.2.2.2.map (nodes d)).sum + 1) (by omega) (by omega)
          (by rw [List.drop_zero, Nat.add_mul]; simp only [List.length_append]; omega)
        refine ⟨b, h1, ?_⟩;unfold nodes
        rwa [Nat.add_comm 1]
theorem validate_ex {B : Nat} (hB : B ≤ 100000000000) {v : Pv} (hs : Sm B 10 v) : ∃ f, value_Validate v = some f ∧ ((f = (0, 0) ∧ Vd 10 v ∧ nodes 10 v ≤ 600) ∨ f.1 ≠ 0) := by
  obtain ⟨r, h1, h2⟩ := chk_ex hB 10 1000 v 0 (by omega) hs (by omega) (Int.le_refl _);have h1' : value_check v 0 1 = some r := h1;unfold value_Validate value_Encode;rw [h1', Option.bind_some]
  rcases h2 with ⟨hr, k1, k2, k3⟩ | hr
  · rw [if_pos (by rw [hr]; exact ⟨rfl, rfl⟩)];obtain ⟨b, h3, h4⟩ := enc_ex hB 10 1000 v (by omega) hs k1 (by omega);have h3' : value_encode v = some b := h3;rw [h3', Option.bind_some]
    by_cases h5 : (4000 : Int) < (b.length : Int)
    · rw [if_pos h5];exact ⟨(14, -1), rfl, .inr (by simp)⟩
    · rw [if_neg h5];exact ⟨(0, 0), rfl, .inl ⟨rfl, k1, by omega⟩⟩
  · rw [if_neg (fun h => hr h.1)];exact ⟨r.2, rfl, .inr hr⟩
end Go.Proofs.YtmfiaecglndldaaGreatDoor
end
section
namespace Go.L
/-- A list, taken element by element. -/
def foldO {σ α : Type} (step : σ → α → Option σ) : σ → List α → Option σ
  | s, [] => some s
  | s, x :: l => (step s x).bind fun s' => foldO step s' l
theorem foldO_append {σ α : Type} {step : σ → α → Option σ} : ∀ (l m : List α) (s : σ), foldO step s (l ++ m) = (foldO step s l).bind fun s' => foldO step s' m
  | [], _, _ => rfl
  | x :: l, m, s => by
    simp only [List.cons_append, foldO]
    cases step s x with
    | none => rfl
    | some s' => exact foldO_append l m s'
/-- The step to a part. -/
def cst (v : Pv) (i : Nat) : List UInt8 := if v.f.1 = 4 then v.f.2.2.2.1.getD i default else [35]
/-- The leaves of a value on a path. -/
def lvs : Nat → Pv → List (List UInt8) → List Lf
  | 0, _, _ => []
  | d + 1, v, p => (jn p, v.f.1, v.f.2.1, v.f.2.2.1) :: (List.range' 0 v.f.2.2.2.2.length).flatMap fun i => lvs d (v.f.2.2.2.2.getD i default) (p ++ [cst v i])
theorem map_getD {α : Type} [Inhabited α] (l : List α) : (List.range' 0 l.length).map (fun i => l.getD i default) = l := by
  rw [← List.range_eq_range'];apply List.ext_getElem
  · simp
  · intro i h1 h2;simp [List.getD_eq_getElem?_getD, h2]
theorem lvs_len : ∀ (d : Nat) (v : Pv) (p : List (List UInt8)), (lvs d v p).length = nodes d v
  | 0, _, _ => rfl
  | d + 1, v, p => by
    unfold lvs nodes;rw [List.length_cons, List.length_flatMap, Nat.add_comm]
    congr 2
    conv => rhs; rw [← map_getD v.f.2.2.2.2]
    rw [List.map_map];apply List.map_congr_left;intro i _;exact lvs_len d _ _
theorem join_jn : ∀ p : List (List UInt8), Lib.join p [47] = jn p
  | [] => rfl
  | x :: l => by
    have key : ∀ (l : List (List UInt8)) (x : List UInt8), jn (x :: l) = x ++ Lib.joinTail [47] l := by
      intro l
      induction l with
      | nil => intro x; simp [jn, Lib.joinTail]
      | cons y l ih =>
        intro x;unfold jn;rw [if_neg (by simp), ih y];simp [Lib.joinTail]
    rw [Lib.join_cons, key]
/-- A path of a valid value. -/
def POk (p : List (List UInt8)) : Prop := ∀ x ∈ p, stp x = true
theorem stp_len {x : List UInt8} (h : stp x = true) : x.length ≤ 32 := by
  unfold stp at h;rw [Bool.or_eq_true, decide_eq_true_eq] at h
  rcases h with h | rfl
  · unfold nok at h; rw [Bool.and_eq_true, decide_eq_true_eq] at h; omega
  · decide
theorem POk.tot {p : List (List UInt8)} (h : POk p) : tot p ≤ 33 * p.length := by
  induction p with
  | nil => simp [Go.L.tot]
  | cons x p ih =>
    have := stp_len (h x (.head _));have := ih fun y hy => h y (.tail _ hy);unfold Go.L.tot;simp only [List.length_cons];omega
theorem POk.jn_len {p : List (List UInt8)} (h : POk p) : (jn p).length ≤ 33 * p.length := by
  by_cases h0 : p = []
  · subst h0; simp [jn]
  · have := Go.L.jn_len h0;have := h.tot;omega
theorem POk.snoc {p : List (List UInt8)} (h : POk p) {x : List UInt8} (hx : stp x = true) : POk (p ++ [x]) := fun y hy => by
  rcases List.mem_append.1 hy with hy | hy
  · exact h y hy
  · rw [List.mem_singleton] at hy; subst hy; exact hx
theorem cst_ok {v : Pv} (h : NodeOk v) {i : Nat} (hi : i < v.f.2.2.2.2.length) : stp (cst v i) = true := by
  unfold cst
  by_cases h4 : v.f.1 = 4
  · rw [if_pos h4];have := h.nok _ (getD_mem (by rw [h.same h4]; exact hi));unfold stp;rw [this]; rfl
  · rw [if_neg h4]; decide
theorem POk.nil {p : List (List UInt8)} (h : POk p) : jn p = [] ↔ p = [] := by
  constructor
  · intro hj
    cases p with
    | nil => rfl
    | cons x p =>
      have := (stp_ne (h x (.head _))).1;unfold jn at hj
      split at hj
      · exact absurd hj this
      · simp at hj
  · rintro rfl; rfl
end Go.L
namespace Go.Proofs.YtmfiaecglndldaaGreatDoor
open Go Go.L
section
variable {σ : Type} {step : σ → Lf → Option σ}
theorem lv_loop {v : Pv} {p : List (List UInt8)} {self : Pv → List (List UInt8) → σ → Option σ} {d : Nat} (hv : NodeOk v) (hp : p.length ≤ 20) (hs : ∀ i s, i < v.f.2.2.2.2.length → self (v.f.2.2.2.2.getD i default) (p ++ [cst v i]) s = foldO step s (lvs d (v.f.2.2.2.2.getD i default) (p ++ [cst v i]))) :
    ∀ (k i : Nat) (s : σ), i + k = v.f.2.2.2.2.length → Go.L.run (shapes_leaves_body_bl1 v p self) ((i : Int), s) = foldO step s ((List.range' i k).flatMap fun i => lvs d (v.f.2.2.2.2.getD i default) (p ++ [cst v i]))
  | 0, i, s, hi => by
    refine run_inr (m := some s) ?_;unfold shapes_leaves_body_bl1;dsimp only;rw [if_neg (by omega)]
  | k + 1, i, s, hi => by
    have hil : i < v.f.2.2.2.2.length := by omega
    have hmany := hv.many;rw [List.range'_succ, List.flatMap_cons, foldO_append, ← hs i s hil]
    have hk : ∀ x, x = cst v i → shapes_leaves_body_k2 v p (i : Int) self x s = (self (v.f.2.2.2.2.getD i default) (p ++ [cst v i]) s).bind fun s' => some (.inl (((i + 1 : Nat) : Int), s')) := by
      rintro x rfl;unfold shapes_leaves_body_k2 slices_Clone_string_string;rw [chk_pos (by unfold Go.E.Cap; simp; omega), Option.bind_some, chk_pos (by unfold Go.E.Cap; simp; omega), Int.toNat_natCast, List.nil_append];refine congrArg (Option.bind _) (funext fun x => ?_);rw [chk_pos (by unfold I64; omega)]
      rfl
    have hb : shapes_leaves_body_bl1 v p self ((i : Int), s) = (self (v.f.2.2.2.2.getD i default) (p ++ [cst v i]) s).bind fun s' => some (.inl (((i + 1 : Nat) : Int), s')) := by
      unfold shapes_leaves_body_bl1;dsimp only;rw [if_pos (by omega), chk_pos (by omega)]
      by_cases h4 : v.f.1 = 4
      · have := hv.same h4;rw [if_pos h4, chk_pos (by omega), Int.toNat_natCast];exact hk _ (by unfold cst; rw [if_pos h4])
      · rw [if_neg h4];exact hk _ (by unfold cst; rw [if_neg h4])
    cases hc : self (v.f.2.2.2.2.getD i default) (p ++ [cst v i]) s with
    | none =>
      rw [hc] at hb;exact run_inr (m := none) hb
    | some s' =>
      rw [hc] at hb;rw [run_inl hb];exact lv_loop hv hp hs k (i + 1) s' (by omega)
theorem lv_n : ∀ (d n : Nat) (v : Pv) (p : List (List UInt8)) (s : σ), d ≤ n → Vd d v → POk p → p.length + d ≤ 20 → shapes_leaves_n step n v p s = foldO step s (lvs d v p)
  | 0, _, _, _, _, _, h, _, _ => h.elim
  | d + 1, 0, _, _, _, h, _, _, _ => absurd h (by omega)
  | d + 1, n + 1, v, p, s, hn, hv, hp, hl => by
    obtain ⟨hok, hvp⟩ := hv
    show shapes_leaves_body step (shapes_leaves_n step n) v p s = _
    unfold shapes_leaves_body joinL lvs;have := hp.jn_len;rw [join_jn, chk_pos (by omega), Option.bind_some]
    show (step s (jn p, v.f.1, v.f.2.1, v.f.2.2.1)).bind _ = (step s (jn p, v.f.1, v.f.2.1, v.f.2.2.1)).bind _
    congr 1
    funext s'
    exact lv_loop hok (by omega) (fun i s hi => lv_n d n _ _ s (by omega) (hvp _ (getD_mem hi)) (hp.snoc (cst_ok hok hi)) (by simp; omega)) v.f.2.2.2.2.length 0 s' (by omega)
theorem leaves_eq {v : Pv} (hv : Vd 10 v) (s : σ) : shapes_leaves step v [] s = foldO step s (lvs 10 v []) := lv_n 10 1000 v [] s (by omega) hv (fun x hx => by cases hx) (by simp)
end
end Go.Proofs.YtmfiaecglndldaaGreatDoor
end
