/- Texts of a claim, merged. -/
import Derived.Test.YtmfiaecglndldaaGreatDoorKh5
import Derived.KernelRfl
set_option linter.unusedVariables false
set_option linter.unusedSimpArgs false
section
namespace Go.L
/-- The parts between slashes, the first one behind some letters. -/
def pcs : List UInt8 → List UInt8 → List (List UInt8)
  | cur, [] => [cur]
  | cur, c :: s => if c = 47 then cur :: pcs [] s else pcs (cur ++ [c]) s
theorem pcs_cur : ∀ (s cur : List UInt8), pcs cur s = (cur ++ (pcs [] s).headD []) :: (pcs [] s).tail
  | [], cur => by simp [pcs]
  | c :: s, cur => by
    unfold pcs
    by_cases h : c = 47
    · rw [if_pos h, if_pos h]; simp
    · rw [if_neg h, if_neg h, pcs_cur s (cur ++ [c]), pcs_cur s ([] ++ [c])];simp
theorem pcs_len : ∀ (s cur : List UInt8), (pcs cur s).length ≤ s.length + 1
  | [], _ => by simp [pcs]
  | c :: s, cur => by
    unfold pcs
    split
    · have := pcs_len s []; simp only [List.length_cons]; omega
    · have := pcs_len s (cur ++ [c]); simp only [List.length_cons]; omega
/-- The bytes of steps, each with a slash. -/
def tot : List (List UInt8) → Nat
  | [] => 0
  | x :: l => x.length + 1 + tot l
theorem pcs_tot : ∀ (s cur : List UInt8), tot (pcs cur s) = cur.length + s.length + 1
  | [], cur => by simp [pcs, tot]
  | c :: s, cur => by
    unfold pcs
    split
    · unfold tot; rw [pcs_tot s []]; simp only [List.length_cons, List.length_nil]; omega
    · rw [pcs_tot s]; simp only [List.length_append, List.length_cons, List.length_nil]; omega
theorem splitK_pcs : ∀ s : List UInt8, Lib.splitK [47] 0 (s.count 47) s = pcs [] s
  | [] => rfl
  | c :: s => by
    have ih := splitK_pcs s
    have hi : Lib.index (c :: s) [47] = if c == 47 then 0 else if Lib.index s [47] == -1 then -1 else Lib.index s [47] + 1 := by
      rw [Lib.index_one, Lib.index_one]; rfl
    by_cases h : c = 47
    · subst h;rw [List.count_cons_self];unfold Lib.splitK pcs;rw [hi];simp [ih]
    · have hb : (c == 47) = false := by simpa using h
      rw [List.count_cons_of_ne (fun e => h e)]
      have hp : pcs [] (c :: s) = ([c] ++ (pcs [] s).headD []) :: (pcs [] s).tail := by
        conv => lhs; unfold pcs
        rw [if_neg h, pcs_cur s ([] ++ [c])]; rfl
      rw [hp, ← ih]
      cases hk : s.count 47 with
      | zero => rfl
      | succ k =>
        unfold Lib.splitK;rw [hi, hb]
        by_cases h1 : (Lib.index s [47] == -1) = true
        · simp [h1]
        · have hge : -1 ≤ Lib.index s [47] := Lib.index_ge s [47];have h2 : 0 ≤ Lib.index s [47] := by have : Lib.index s [47] ≠ -1 := fun e => h1 (by simp [e]); omega
          obtain ⟨i, hi2⟩ := Int.eq_ofNat_of_zero_le h2;have h3 : ((i : Int) + 1 == -1) = false := by simp; omega
          have h4 : ((i : Int) == -1) = false := by simp
          rw [hi2] at h1 ⊢;simp [h3, h4, show ((i : Int) + 1).toNat = i + 1 by omega]
/-- The steps of a path or pattern. -/
def sl (s : List UInt8) : List (List UInt8) := if s = [] then [] else pcs [] s
theorem sl_len (s : List UInt8) : (sl s).length ≤ s.length + 1 := by unfold sl; split; simp; exact pcs_len s []
theorem sl_tot (s : List UInt8) : tot (sl s) ≤ s.length + 1 := by unfold sl; split; simp [tot]; rw [pcs_tot]; simp
theorem tot_mem : ∀ {l : List (List UInt8)} {x : List UInt8}, x ∈ l → x.length < tot l
  | y :: l, x, h => by
    unfold tot
    rcases List.mem_cons.1 h with rfl | h
    · omega
    · have := tot_mem h; omega
/-- A letter of a name. -/
def nch (c : UInt8) : Bool := decide ((97 ≤ c.toNat ∧ c.toNat ≤ 122) ∨ (48 ≤ c.toNat ∧ c.toNat ≤ 57) ∨ c.toNat = 45 ∨ c.toNat = 95 ∨ c.toNat = 46)
/-- A name. -/
def nok (s : List UInt8) : Bool := decide (1 ≤ s.length ∧ s.length ≤ 32 ∧ 97 ≤ (s.getD 0 default).toNat ∧ (s.getD 0 default).toNat ≤ 122) && s.all nch
/-- The place of the first wrong step, or -1. -/
def wr (w : Bool) : Int → List (List UInt8) → Int
  | _, [] => -1
  | a, x :: l => if (nok x || decide (x = [35]) || (w && (decide (x = [42]) || decide (x = [42, 42])))) = true then wr w (a + x.length + 1) l else a
theorem drop_cons {α : Type} [Inhabited α] {l : List α} {i : Nat} (h : i < l.length) : l.drop i = l.getD i default :: l.drop (i + 1) := by
  rw [List.drop_eq_getElem_cons h]; simp [List.getD_eq_getElem?_getD, List.getElem?_eq_getElem h]
theorem getD_mem {α : Type} [Inhabited α] {l : List α} {i : Nat} (h : i < l.length) : l.getD i default ∈ l := by
  rw [List.getD_eq_getElem?_getD, List.getElem?_eq_getElem h]; exact List.getElem_mem h
end Go.L
namespace Go.Proofs.YtmfiaecglndldaaGreatDoor
open Go Go.L
theorem steps_eq {s : List UInt8} (h : s.length < 4294967281) : shapes_steps s = some (sl s) := by
  unfold shapes_steps sl
  by_cases hs : s = []
  · rw [if_pos hs, if_pos hs]
  · rw [if_neg hs, if_neg hs];unfold strings_Split genSplitL;rw [chk_pos ⟨h, rfl, rfl, rfl⟩]
    show some (pieces s) = some (pcs [] s)
    unfold pieces Lib.split;rw [Lib.count_one, splitK_pcs]
theorem ref_steps_run {s : List UInt8} (hs : s.length ≤ 1000000000000) : ∀ (d i f : Nat) (L : List (List UInt8)), i + d = s.length → f ≤ i → L.length ≤ i →
    Go.L.run (ref4_Steps_bl2 s) (L, (f : Int), (i : Int)) = some (L ++ pcs ((s.drop f).take (i - f)) (s.drop i)) := by
  intro d
  induction d with
  | zero =>
    intro i f L hi hf hL
    have e1 : ref4_Steps_bl2 s (L, (f : Int), (i : Int)) = some (.inl (L ++ [(s.drop f).take (i - f)], ((i + 1 : Nat) : Int), ((i + 1 : Nat) : Int))) := by
      unfold ref4_Steps_bl2;simp only [Int.toNat_natCast];rw [if_pos (by omega), if_pos (by omega), chk_pos (by omega), chk_pos (by unfold Go.E.Cap; simp; omega), chk_pos (by unfold I64; omega), chk_pos (by unfold I64; omega)]
      rfl
    rw [run_inl e1, run_inr (m := some (L ++ [(s.drop f).take (i - f)]))]
    · rw [List.drop_eq_nil_of_le (by omega : s.length ≤ i)]; rfl
    · unfold ref4_Steps_bl2;dsimp only;rw [if_neg (by omega)]
      rfl
  | succ d ih =>
    intro i f L hi hf hL;have hil : i < s.length := by omega
    have hd := drop_cons hil
    by_cases hc : s.getD i default = 47
    · have e1 : ref4_Steps_bl2 s (L, (f : Int), (i : Int)) = some (.inl (L ++ [(s.drop f).take (i - f)], ((i + 1 : Nat) : Int), ((i + 1 : Nat) : Int))) := by
        unfold ref4_Steps_bl2;simp only [Int.toNat_natCast];rw [if_pos (by omega), if_neg (by omega), chk_pos (by omega), if_pos (by rw [hc]; rfl), chk_pos (by omega), chk_pos (by unfold Go.E.Cap; simp; omega), chk_pos (by unfold I64; omega), chk_pos (by unfold I64; omega)]
        rfl
      rw [run_inl e1, ih (i + 1) (i + 1) _ (by omega) (Nat.le_refl _) (by simp; omega), hd]
      conv => rhs; unfold pcs
      rw [if_pos hc, Nat.sub_self, List.take_zero, List.append_assoc]
      rfl
    · have e1 : ref4_Steps_bl2 s (L, (f : Int), (i : Int)) = some (.inl (L, (f : Int), ((i + 1 : Nat) : Int))) := by
        unfold ref4_Steps_bl2;simp only [Int.toNat_natCast];rw [if_pos (by omega), if_neg (by omega), chk_pos (by omega), if_neg (fun e => hc (UInt8.toNat.inj (show (s.getD i default).toNat = 47 by omega))), chk_pos (by unfold I64; omega)]
        rfl
      rw [run_inl e1, ih (i + 1) f _ (by omega) (by omega) (by omega), hd]
      conv => rhs; unfold pcs
      rw [if_neg hc]
      congr 2
      rw [show i + 1 - f = (i - f) + 1 by omega, List.take_add_one, List.getElem?_drop, show f + (i - f) = i by omega, List.getElem?_eq_getElem hil];simp [List.getD_eq_getElem?_getD, List.getElem?_eq_getElem hil]
theorem ref_steps {s : List UInt8} (hs : s.length ≤ 1000000000000) : ref4_Steps s = some (sl s) := by
  unfold ref4_Steps sl
  split
  · rfl
  · have := ref_steps_run hs s.length 0 0 [] (by omega) (Nat.le_refl _) (Nat.le_refl _);exact this
/-! ### Names -/
theorem nameok_run {s : List UInt8} (hs : s.length ≤ 1000000000000) : ∀ (d i : Nat), i + d = s.length → 1 ≤ i → Go.L.run (ref4_NameOk_bl2 s) (i : Int) = some ((s.drop i).all nch && decide (1 ≤ s.length ∧ s.length ≤ 32)) := by
  intro d
  induction d with
  | zero =>
    intro i hi h1;refine run_inr ?_;unfold ref4_NameOk_bl2 ref4_NameOk_k1 ref3_In;rw [if_neg (by omega), List.drop_eq_nil_of_le (by omega : s.length ≤ i)];simp only [Option.bind_some, Option.map_some, List.all_nil, Bool.true_and]
    congr 2
    rw [decide_eq_decide];omega
  | succ d ih =>
    intro i hi h1;have hil : i < s.length := by omega
    rw [drop_cons hil, List.all_cons]
    have hstep : ref4_NameOk_bl2 s (i : Int) = if nch (s.getD i default) then some (.inl ((i + 1 : Nat) : Int)) else some (.inr false) := by
      unfold ref4_NameOk_bl2 ref3_In nch;rw [if_pos (by omega), chk_pos (by omega), Int.toNat_natCast];have hk : I64 ((i : Int) + 1) := by unfold I64; omega
      have hz : ¬ ((i : Int) = 0) := by omega
      simp only [Option.bind_some, chk_pos hk, if_neg hz];generalize (s.getD i default).toNat = c;have e1 : (decide ((97 : Int) ≤ (c : Int) ∧ (c : Int) ≤ 122)) = decide (97 ≤ c ∧ c ≤ 122) := by rw [decide_eq_decide]; omega
      have e2 : (decide ((48 : Int) ≤ (c : Int) ∧ (c : Int) ≤ 57)) = decide (48 ≤ c ∧ c ≤ 57) := by rw [decide_eq_decide]; omega
      rw [e1, e2]
      by_cases k1 : 97 ≤ c ∧ c ≤ 122
      · simp [k1]
      · by_cases k2 : 48 ≤ c ∧ c ≤ 57
        · simp [k1, k2]
        · by_cases k3 : c = 45
          · subst k3; simp
          · by_cases k4 : c = 95
            · subst k4; simp
            · by_cases k5 : c = 46
              · subst k5; simp
              · have k3' : ¬ ((c : Int) = 45) := by omega
                have k4' : ¬ ((c : Int) = 95) := by omega
                have k5' : ¬ ((c : Int) = 46) := by omega
                simp [k1, k2, k3, k4, k5, k3', k4', k5']
    by_cases hn : nch (s.getD i default) = true
    · rw [if_pos hn] at hstep;rw [run_inl hstep, ih (i + 1) (by omega) (by omega), hn, Bool.true_and]
    · rw [if_neg hn] at hstep;have hn' : nch (s.getD i default) = false := by simpa using hn
      rw [run_inr (m := some false) hstep, hn', Bool.false_and, Bool.false_and]
theorem nameok_eq {s : List UInt8} (hs : s.length ≤ 1000000000000) : ref4_NameOk s = some (nok s) := by
  unfold ref4_NameOk ref4_NameOk_l2
  by_cases h0 : s = []
  · subst h0;refine run_inr ?_
    rfl
  · have hl : 0 < s.length := List.length_pos_iff.2 h0;have hd : s = s.getD 0 default :: s.drop 1 := by have := drop_cons hl; simpa using this
    by_cases hc : 97 ≤ (s.getD 0 default).toNat ∧ (s.getD 0 default).toNat ≤ 122
    · have e1 : ref4_NameOk_bl2 s (0 : Int) = some (.inl ((1 : Nat) : Int)) := by
        unfold ref4_NameOk_bl2 ref3_In;rw [if_pos (by omega), chk_pos (by omega)];simp only [Option.bind_some, Int.toNat_zero];have hh : (decide ((97 : Int) ≤ ((s.getD 0 default).toNat : Int) ∧ ((s.getD 0 default).toNat : Int) ≤ 122)) = true := by rw [decide_eq_true_eq]; omega
        rw [hh, if_neg (by decide), chk_pos (by unfold I64; omega)]
        rfl
      rw [run_inl e1, nameok_run hs (s.length - 1) 1 (by omega) (Nat.le_refl _)];unfold nok;have hn : nch (s.getD 0 default) = true := by unfold nch; rw [decide_eq_true_eq]; exact .inl hc
      have ha : s.all nch = (s.drop 1).all nch := by conv => lhs; rw [hd, List.all_cons, hn, Bool.true_and]
      rw [ha, Bool.and_comm]
      congr 2
      rw [decide_eq_decide]
      constructor
      · intro h; exact ⟨h.1, h.2, hc.1, hc.2⟩
      · intro h; exact ⟨h.1, h.2.1⟩
    · have e1 : ref4_NameOk_bl2 s (0 : Int) = some (.inr false) := by
        unfold ref4_NameOk_bl2 ref3_In;rw [if_pos (by omega), chk_pos (by omega)];simp only [Option.bind_some, Int.toNat_zero];have hh : (decide ((97 : Int) ≤ ((s.getD 0 default).toNat : Int) ∧ ((s.getD 0 default).toNat : Int) ≤ 122)) = false := by rw [decide_eq_false_iff_not]; omega
        rw [hh]
        rfl
      rw [run_inr (m := some false) e1];unfold nok;rw [show (decide (1 ≤ s.length ∧ s.length ≤ 32 ∧ 97 ≤ (s.getD 0 default).toNat ∧ (s.getD 0 default).toNat ≤ 122)) = false by rw [decide_eq_false_iff_not]; intro h; exact hc ⟨h.2.2.1, h.2.2.2⟩]
      rfl
theorem get_bang (l : List UInt8) (k : Nat) : ((ByteArray.mk l.toArray).get! k).toNat = (l.getD k default).toNat := by
  simp [ByteArray.get!, List.getD_eq_getElem?_getD, getElem!_def]
  cases l[k]? <;> rfl
theorem dec_low {l : List UInt8} {p : Nat} (h : (l.getD p default).toNat < 128) : Utf8.decode ⟨l.toArray⟩ p = ((l.getD p default).toNat, 1) := by
  unfold Utf8.decode;simp only [Nat.add_zero, get_bang];rw [if_pos h]
theorem dec_high {l : List UInt8} {p : Nat} (h : ¬ (l.getD p default).toNat < 128) : 128 ≤ (Utf8.decode ⟨l.toArray⟩ p).1 := by
  unfold Utf8.decode;simp only [Nat.add_zero, get_bang];rw [if_neg h]
  split
  · split
    · rename_i h2; simpa using h2
    · decide
  · split
    · split
      · rename_i h2; simp only [ge_iff_le, Bool.and_eq_true, decide_eq_true_eq] at h2; show 128 ≤ _; omega
      · decide
    · split
      · split
        · rename_i h2; simp only [ge_iff_le, Bool.and_eq_true, decide_eq_true_eq] at h2; show 128 ≤ _; omega
        · decide
      · decide
theorem badR_nch (c : UInt8) : badR c.toNat = !(nch c) := by
  unfold badR nch;generalize c.toNat = n;rw [Bool.eq_iff_iff];simp;omega
theorem cf_run {a : List UInt8} : ∀ (f p : Nat), a.length ≤ p + f → (0 ≤ Lib.idxFuncFrom badR true ⟨a.toArray⟩ f p ↔ (a.drop p).all nch = false)
  | 0, p, h => by
    rw [List.drop_eq_nil_of_le (by omega)];simp [Lib.idxFuncFrom]
  | f + 1, p, h => by
    have hsz : (ByteArray.mk a.toArray).size = a.length := by simp [ByteArray.size]
    unfold Lib.idxFuncFrom;rw [hsz]
    by_cases hp : p < a.length
    · rw [if_pos hp, drop_cons hp, List.all_cons]
      by_cases hc : (a.getD p default).toNat < 128
      · rw [dec_low hc];simp only [badR_nch]
        by_cases hn : nch (a.getD p default) = true
        · rw [hn, if_neg (by decide), Bool.true_and];exact cf_run f (p + 1) (by omega)
        · have hn' : nch (a.getD p default) = false := by simpa using hn
          rw [hn', if_pos (by decide)];simp
      · have hb : badR (Utf8.decode ⟨a.toArray⟩ p).1 = true := by
          have := dec_high hc;unfold badR;simp;omega
        have hn : nch (a.getD p default) = false := by
          unfold nch;rw [decide_eq_false_iff_not];omega
        rw [hb, if_pos rfl, hn];simp
    · rw [if_neg hp, List.drop_eq_nil_of_le (by omega)];simp
theorem nameCF_eq (a : List UInt8) : nameCF a = some (!(a.all nch)) := by
  unfold nameCF Lib.idxFunc
  congr 1
  have := cf_run (a := a) (ByteArray.mk a.toArray).size 0 (by simp [ByteArray.size]);rw [List.drop_zero] at this;rw [Bool.eq_iff_iff, decide_eq_true_eq, this];simp
theorem name_eq (s : List UInt8) : value_Name s = some (nok s) := by
  unfold value_Name nok
  by_cases h0 : s = []
  · subst h0; rfl
  · have hl : 0 < s.length := List.length_pos_iff.2 h0;rw [if_neg h0]
    by_cases h1 : (32 : Int) < (s.length : Int)
    · rw [if_pos h1, show decide (1 ≤ s.length ∧ s.length ≤ 32 ∧ 97 ≤ (s.getD 0 default).toNat ∧ (s.getD 0 default).toNat ≤ 122) = false by rw [decide_eq_false_iff_not]; omega]
      rfl
    · rw [if_neg h1, chk_pos (by omega), Int.toNat_zero]
      by_cases h2 : ((s.getD 0 default).toNat : Int) < 97
      · rw [if_pos h2, show decide (1 ≤ s.length ∧ s.length ≤ 32 ∧ 97 ≤ (s.getD 0 default).toNat ∧ (s.getD 0 default).toNat ≤ 122) = false by rw [decide_eq_false_iff_not]; omega]
        rfl
      · rw [if_neg h2, chk_pos (by omega)]
        by_cases h3 : 122 < ((s.getD 0 default).toNat : Int)
        · rw [if_pos h3, show decide (1 ≤ s.length ∧ s.length ≤ 32 ∧ 97 ≤ (s.getD 0 default).toNat ∧ (s.getD 0 default).toNat ≤ 122) = false by rw [decide_eq_false_iff_not]; omega]
          rfl
        · rw [if_neg h3, nameCF_eq, show decide (1 ≤ s.length ∧ s.length ≤ 32 ∧ 97 ≤ (s.getD 0 default).toNat ∧ (s.getD 0 default).toNat ≤ 122) = true by rw [decide_eq_true_eq]; omega];simp
/-! ### Checks -/
theorem wrong_run {w : Bool} {l : List (List UInt8)} (hl : tot l ≤ 1000000000000) : ∀ (d i a : Nat), i + d = l.length → a + tot (l.drop i) ≤ 2000000000000 →
    Go.L.run (ref4_Wrong_bl2 w l) ((a : Int), (i : Int)) = some (wr w (a : Int) (l.drop i)) := by
  intro d
  induction d with
  | zero =>
    intro i a hi ha;rw [List.drop_eq_nil_of_le (by omega)];refine run_inr ?_;unfold ref4_Wrong_bl2;dsimp only;rw [if_neg (by omega)]
    rfl
  | succ d ih =>
    intro i a hi ha;have hil : i < l.length := by omega
    have hlt : l.length ≤ 1000000000000 := by
      have : ∀ m : List (List UInt8), m.length ≤ tot m := fun m => by
        induction m with
        | nil => exact Nat.zero_le _
        | cons x m ih => simp only [List.length_cons, tot]; omega
      exact Nat.le_trans (this l) hl
    have hx := tot_mem (getD_mem hil);rw [drop_cons hil] at ha ⊢;unfold wr;unfold tot at ha;generalize hX : l.getD i default = x at *;have hk1 : I64 ((a : Int) + (x.length : Int)) := by unfold I64; omega
    have hk2 : I64 ((a : Int) + (x.length : Int) + 1) := by unfold I64; omega
    have hk3 : I64 ((i : Int) + 1) := by unfold I64; omega
    have hk0 : 0 ≤ (i : Int) ∧ (i : Int) < (l.length : Int) := by omega
    have hgo : Go.L.run (ref4_Wrong_bl2 w l) ((a : Int) + (x.length : Int) + 1, (i : Int) + 1) = some (wr w ((a : Int) + (x.length : Int) + 1) (l.drop (i + 1))) := by
      have := ih (i + 1) (a + x.length + 1) (by omega) (by omega)
      simpa using this
    have hb : ref4_Wrong_bl2 w l ((a : Int), (i : Int)) = if (nok x || decide (x = [35]) || (w && (decide (x = [42]) || decide (x = [42, 42])))) = true then some (.inl ((a : Int) + (x.length : Int) + 1, (i : Int) + 1)) else some (.inr (a : Int)) := by
      unfold ref4_Wrong_bl2;simp only [Int.toNat_natCast, hX];rw [if_pos (by omega), chk_pos hk0, nameok_eq (by omega)];simp only [Option.bind_some, chk_pos hk0, chk_pos hk1, chk_pos hk2, chk_pos hk3]
      cases hn : nok x <;> by_cases h1 : x = [35] <;> cases w <;> by_cases h2 : x = [42] <;> by_cases h3 : x = [42, 42] <;> simp_all
    by_cases hc : (nok x || decide (x = [35]) || (w && (decide (x = [42]) || decide (x = [42, 42])))) = true
    · rw [if_pos hc] at hb ⊢;rw [run_inl hb, hgo]
    · rw [if_neg hc] at hb ⊢;exact run_inr (m := some (a : Int)) hb
theorem wrong_eq {s : List UInt8} (hs : s.length ≤ 100000000000) (w : Bool) : ref4_Wrong s w = some (wr w 0 (sl s)) := by
  unfold ref4_Wrong;rw [ref_steps (by omega), Option.bind_some];have h1 := sl_tot s;have := wrong_run (w := w) (l := sl s) (by omega) (sl s).length 0 0 (by omega) (by simp; omega);rw [List.drop_zero] at this;exact this
/-- The fault of a pattern. -/
def pf (s : List UInt8) : Int × Int := if 64 < s.length then (3, -1) else if 0 ≤ wr true 0 (sl s) then (1, wr true 0 (sl s)) else (0, 0)
theorem pfault_eq (s : List UInt8) : ref4_PatternFault s = some (pf s) := by
  unfold ref4_PatternFault pf
  by_cases h : 64 < s.length
  · rw [if_pos (by omega), if_pos h]; rfl
  · rw [if_neg (by omega), if_neg h, wrong_eq (by omega)];simp only [Option.bind_some]
    split <;> rfl
theorem check_run {l : List (List UInt8)} (hl : tot l ≤ 1000000000000) : ∀ (d i a : Nat), i + d = l.length → a + tot (l.drop i) ≤ 2000000000000 →
    Go.L.run (shapes_Check_bl2 l) ((a : Int), (i : Int)) = some (if 0 ≤ wr true (a : Int) (l.drop i) then (1, wr true (a : Int) (l.drop i)) else (0, 0)) := by
  intro d
  induction d with
  | zero =>
    intro i a hi ha;rw [List.drop_eq_nil_of_le (by omega)];refine run_inr ?_;unfold shapes_Check_bl2;dsimp only;rw [if_neg (by omega)]
    rfl
  | succ d ih =>
    intro i a hi ha;have hil : i < l.length := by omega
    have hlt : l.length ≤ 1000000000000 := by
      have : ∀ m : List (List UInt8), m.length ≤ tot m := fun m => by
        induction m with
        | nil => exact Nat.zero_le _
        | cons x m ih => simp only [List.length_cons, tot]; omega
      exact Nat.le_trans (this l) hl
    have hx := tot_mem (getD_mem hil);rw [drop_cons hil] at ha ⊢;unfold wr;unfold tot at ha;generalize hX : l.getD i default = x at *;have hk1 : I64 ((x.length : Int) + 1) := by unfold I64; omega
    have hk2 : I64 ((a : Int) + ((x.length : Int) + 1)) := by unfold I64; omega
    have hk3 : I64 ((i : Int) + 1) := by unfold I64; omega
    have hk0 : 0 ≤ (i : Int) ∧ (i : Int) < (l.length : Int) := by omega
    have hgo : Go.L.run (shapes_Check_bl2 l) ((a : Int) + ((x.length : Int) + 1), (i : Int) + 1) = some (if 0 ≤ wr true ((a : Int) + (x.length : Int) + 1) (l.drop (i + 1)) then (1, wr true ((a : Int) + (x.length : Int) + 1) (l.drop (i + 1))) else (0, 0)) := by
      have := ih (i + 1) (a + x.length + 1) (by omega) (by omega);rw [show ((a : Int) + ((x.length : Int) + 1)) = ((a + x.length + 1 : Nat) : Int) by omega, show ((a : Int) + (x.length : Int) + 1) = ((a + x.length + 1 : Nat) : Int) by omega];exact this
    have hb : shapes_Check_bl2 l ((a : Int), (i : Int)) = if (nok x || decide (x = [35]) || (true && (decide (x = [42]) || decide (x = [42, 42])))) = true then some (.inl ((a : Int) + ((x.length : Int) + 1), (i : Int) + 1)) else some (.inr (1, (a : Int))) := by
      unfold shapes_Check_bl2;simp only [Int.toNat_natCast, hX];rw [if_pos (by omega), chk_pos hk0, name_eq];simp only [Option.bind_some, chk_pos hk1, chk_pos hk2, chk_pos hk3]
      cases hn : nok x <;> by_cases h1 : x = [35] <;> by_cases h2 : x = [42] <;> by_cases h3 : x = [42, 42] <;> simp_all [shapes_fault]
    by_cases hc : (nok x || decide (x = [35]) || (true && (decide (x = [42]) || decide (x = [42, 42])))) = true
    · rw [if_pos hc] at hb ⊢;rw [run_inl hb, hgo]
    · rw [if_neg hc] at hb ⊢;rw [if_pos (by omega)];exact run_inr (m := some (1, (a : Int))) hb
theorem check_eq (s : List UInt8) : shapes_Check s = some (pf s) := by
  unfold shapes_Check pf
  by_cases h : 64 < s.length
  · rw [if_pos (by omega), if_pos h]; rfl
  · rw [if_neg (by omega), if_neg h, steps_eq (by omega), Option.bind_some];have h1 := sl_tot s;have := check_run (l := sl s) (by omega) (sl s).length 0 0 (by omega) (by simp; omega);rw [List.drop_zero] at this;exact this
theorem isp1_eq (x : List UInt8) : shapes_isPath_1 x = some (!(nok x || decide (x = [35]))) := by
  unfold shapes_isPath_1;rw [name_eq]
  by_cases h : x = [35] <;> simp [h]
theorem idxp_run {l : List (List UInt8)} (hl : l.length ≤ 1000000000000) : ∀ (d i : Nat), i + d = l.length → ∀ a : Int, 0 ≤ a → ∃ r, Go.L.run (idxf_isPath_1_bl2 l) (i : Int) = some r ∧ (0 ≤ r ↔ 0 ≤ wr false a (l.drop i)) := by
  intro d
  induction d with
  | zero =>
    intro i hi a ha;rw [List.drop_eq_nil_of_le (by omega)];refine ⟨-1, run_inr (m := some (-1)) ?_, by unfold wr; omega⟩;unfold idxf_isPath_1_bl2;rw [if_neg (by omega)]
    rfl
  | succ d ih =>
    intro i hi a ha;have hil : i < l.length := by omega
    rw [drop_cons hil];unfold wr
    have hb : idxf_isPath_1_bl2 l (i : Int) = if (nok (l.getD i default) || decide (l.getD i default = [35])) = true then some (.inl ((i + 1 : Nat) : Int)) else some (.inr (i : Int)) := by
      unfold idxf_isPath_1_bl2;simp only [Int.toNat_natCast];rw [if_pos (by omega), chk_pos (by omega), isp1_eq, chk_pos (by unfold I64; omega)]
      cases (nok (l.getD i default) || decide (l.getD i default = [35])) <;> rfl
    simp only [Bool.false_and, Bool.or_false]
    by_cases hc : (nok (l.getD i default) || decide (l.getD i default = [35])) = true
    · rw [if_pos hc] at hb ⊢;rw [run_inl hb];exact ih (i + 1) (by omega) _ (by omega)
    · rw [if_neg hc] at hb ⊢;exact ⟨_, run_inr (m := some (i : Int)) hb, by omega⟩
theorem isPath_eq (s : List UInt8) : shapes_isPath s = some (decide (s.length ≤ 330 ∧ ¬ 0 ≤ wr false 0 (sl s))) := by
  unfold shapes_isPath
  by_cases h : s.length ≤ 330
  · rw [if_pos (by omega), steps_eq (by omega), Option.bind_some];have h1 := sl_len s;obtain ⟨r, h2, h3⟩ := idxp_run (l := sl s) (by omega) (sl s).length 0 (by omega) 0 (Int.le_refl _);unfold conf_isPath_1 idxf_isPath_1 idxf_isPath_1_l2;rw [show ((0 : Int)) = ((0 : Nat) : Int) from rfl, h2];simp only [Option.bind_some];rw [List.drop_zero] at h3
    congr 1
    rw [Bool.eq_iff_iff];simp [h, h3]
  · rw [if_neg (by omega)];simp [h]
end Go.Proofs.YtmfiaecglndldaaGreatDoor
end
section
namespace Go.L
/-- A number without its sign. -/
def zz (a : Int) : Nat := if 0 ≤ a then (2 * a).toNat else (-2 * a - 1).toNat
theorem zz_lt {a : Int} (h : I64 a) : zz a < 18446744073709551616 := by unfold zz; unfold I64 at h; split <;> omega
/-- Groups of seven bits, the lowest first. -/
def vintN : Nat → Nat → List UInt8
  | 0, _ => []
  | n + 1, u => if 128 ≤ u then UInt8.ofNat (u % 128 + 128) :: vintN n (u / 128) else [UInt8.ofNat u]
def vint (u : Nat) : List UInt8 := vintN 10 u
theorem vintN_len : ∀ n u, (vintN n u).length ≤ n
  | 0, _ => by simp [vintN]
  | n + 1, u => by
    unfold vintN
    split
    · have := vintN_len n (u / 128); simp only [List.length_cons]; omega
    · simp
theorem vint_len (u : Nat) : (vint u).length ≤ 10 := vintN_len 10 u
set_option maxRecDepth 20000 in
theorem or128 (u : Nat) : u8 (u : Int) ||| 128 = UInt8.ofNat (u % 128 + 128) := by
  have h : ∀ b : Fin 256, (UInt8.ofNat b.val ||| 128) = UInt8.ofNat (b.val % 128 + 128) := by decide
  have := h ⟨u % 256, Nat.mod_lt _ (by decide)⟩;dsimp only at this;unfold u8;rw [show ((u : Int) % 256).toNat = u % 256 by omega, this]
  congr 2
  omega
set_option maxRecDepth 20000 in
theorem add128 (u : Nat) : u8 ((u : Int) % 128) + 128 = UInt8.ofNat (u % 128 + 128) := by
  have h : ∀ b : Fin 128, (UInt8.ofNat b.val + 128) = UInt8.ofNat (b.val + 128) := by decide
  have := h ⟨u % 128, Nat.mod_lt _ (by decide)⟩;dsimp only at this;unfold u8;rw [show (((u : Int) % 128) % 256).toNat = u % 128 by omega, this]
theorem u8_small {u : Nat} : u8 (u : Int) = UInt8.ofNat u := by
  unfold u8;rw [show ((u : Int) % 256).toNat = u % 256 by omega];apply UInt8.toNat.inj;simp
end Go.L
namespace Go.Proofs.YtmfiaecglndldaaGreatDoor
open Go Go.L
theorem wnum_run : ∀ (n u : Nat) (L : List UInt8), u < 128 ^ n → L.length + n ≤ 1000 → n ≤ 10 → 1 ≤ n → Go.L.run wire_Number_bl2 (L, (u : Int)) = some (L ++ vintN n u)
  | 0, _, _, _, _, _, h => absurd h (by omega)
  | n + 1, u, L, hu, hL, hn, _ => by
    unfold vintN
    by_cases h : 128 ≤ u
    · have h1 : 1 ≤ n := by
        rcases Nat.eq_zero_or_pos n with h0 | h0
        · subst h0; simp at hu; omega
        · exact h0
      have e : wire_Number_bl2 (L, (u : Int)) = some (.inl (L ++ [UInt8.ofNat (u % 128 + 128)], ((u / 128 : Nat) : Int))) := by
        unfold wire_Number_bl2;dsimp only;rw [if_pos (by omega), chk_pos (by unfold Go.E.Cap; simp; omega), or128]
        rfl
      rw [run_inl e, wnum_run n (u / 128) _ (Nat.div_lt_of_lt_mul (by rw [Nat.pow_succ, Nat.mul_comm] at hu; exact hu)) (by simp; omega) (by omega) h1, if_pos h];simp
    · rw [if_neg h];refine run_inr (m := some (L ++ [UInt8.ofNat u])) ?_;unfold wire_Number_bl2 wire_Number_k1;dsimp only;rw [if_neg (by omega), chk_pos (by unfold Go.E.Cap; simp; omega), u8_small]
theorem wrap_u {x : Int} : IntKind.u64.wrap x = x % 18446744073709551616 := by
  simp only [IntKind.wrap];simp [IntKind.bits, IntKind.signed]
theorem xor_all {k : Nat} (h : k < 2 ^ 64) : k ^^^ 18446744073709551615 = 18446744073709551615 - k := by
  have h2 : (BitVec.ofNat 64 k ^^^ BitVec.allOnes 64).toNat = (~~~ (BitVec.ofNat 64 k)).toNat := by rw [BitVec.xor_allOnes]
  rw [BitVec.toNat_xor, BitVec.toNat_not, BitVec.toNat_ofNat, BitVec.toNat_allOnes, Nat.mod_eq_of_lt h] at h2;exact h2
theorem number_eq {a : Int} (h : I64 a) : wire_Number a = some (vint (zz a)) := by
  have hz := zz_lt h;unfold I64 at h;unfold wire_Number;simp only [wrap_u];rw [chk_pos (by omega)];unfold wire_Number_l2 vint
  have key : ((((a % 18446744073709551616 * 2 % 18446744073709551616).toNat ^^^ (a / 9223372036854775808 % 18446744073709551616).toNat : Nat)) : Int) = ((zz a : Nat) : Int) := by
    unfold zz
    by_cases h0 : 0 ≤ a
    · rw [if_pos h0, show a / 9223372036854775808 % 18446744073709551616 = 0 by omega];simp only [Int.toNat_zero, Nat.xor_zero];omega
    · rw [if_neg h0, show (a / 9223372036854775808 % 18446744073709551616).toNat = 18446744073709551615 by omega, xor_all (by omega)];omega
  rw [key, wnum_run 10 (zz a) [] (Nat.lt_trans hz (by decide)) (by decide) (by decide) (by decide)]
  rfl
end Go.Proofs.YtmfiaecglndldaaGreatDoor
end
section
namespace Go.L
structure NodeOk (v : Pv) : Prop where
  kind : v.f.1 = 1 ∨ v.f.1 = 2 ∨ v.f.1 = 3 ∨ v.f.1 = 4
  num : v.f.1 = 1 ∨ v.f.2.1 = 0
  bytes : v.f.1 = 2 ∨ v.f.2.2.1 = []
  names : v.f.1 = 4 ∨ v.f.2.2.2.1 = []
  parts : v.f.1 = 3 ∨ v.f.1 = 4 ∨ v.f.2.2.2.2 = []
  same : v.f.1 = 4 → v.f.2.2.2.1.length = v.f.2.2.2.2.length
  many : v.f.2.2.2.2.length ≤ 600
  nok : ∀ x ∈ v.f.2.2.2.1, nok x = true
  nd : v.f.2.2.2.1.Nodup
end Go.L
end
section
namespace Go.L
/-- A number with its sign again. -/
def unzz (u : Nat) : Int := if u % 2 = 0 then ((u / 2 : Nat) : Int) else -((u / 2 : Nat) : Int) - 1
theorem unzz_i64 {u : Nat} (h : u < 2 ^ 64) : I64 (unzz u) := by unfold unzz I64; split <;> omega
theorem zz_unzz (u : Nat) : zz (unzz u) = u := by unfold zz unzz; split <;> split <;> omega
theorem unzz_zz (a : Int) : unzz (zz a) = a := by unfold zz unzz; split <;> split <;> omega
def nu (u i : Nat) (c : UInt8) : Nat := u ||| ((c &&& 127).toNat * 2 ^ (7 * i) % 18446744073709551616)
theorem nu_lt {u i : Nat} {c : UInt8} (h : u < 2 ^ 64) : nu u i c < 2 ^ 64 := Nat.or_lt_two_pow h (by have := Nat.mod_lt ((c &&& 127).toNat * 2 ^ (7 * i)) (show 0 < 18446744073709551616 by decide); omega)
theorem xorI_sign {k : Nat} (h : k < 2 ^ 63) : xorI (k : Int) 0 = k ∧ xorI (k : Int) (-1) = -(k : Int) - 1 := by
  have e : (BitVec.ofInt 64 (k : Int)).toNat = k := by simp; omega
  have wp : ∀ x : Nat, x < 2 ^ 63 → Go.IntKind.i64.wrap (x : Int) = x := fun x hx => by
    simp only [Go.IntKind.wrap]; simp [Go.IntKind.bits, Go.IntKind.signed]; omega
  have wn : ∀ x : Nat, 2 ^ 63 ≤ x → x < 2 ^ 64 → Go.IntKind.i64.wrap (x : Int) = (x : Int) - 18446744073709551616 := fun x hx hx2 => by
    simp only [Go.IntKind.wrap]; simp [Go.IntKind.bits, Go.IntKind.signed]; omega
  constructor
  · unfold xorI;rw [BitVec.toNat_xor, e];rw [show (BitVec.ofInt 64 0).toNat = 0 from rfl, Nat.xor_zero];exact wp k h
  · unfold xorI;rw [show BitVec.ofInt 64 (-1) = BitVec.allOnes 64 from rfl, BitVec.xor_allOnes, BitVec.toNat_not, e, wn _ (by omega) (by omega)];omega
theorem wrap64_lt {k : Nat} (h : k < 2 ^ 63) : Go.IntKind.i64.wrap (k : Int) = k := by
  simp only [Go.IntKind.wrap]; simp [Go.IntKind.bits, Go.IntKind.signed]; omega
end Go.L
namespace Go.Proofs.YtmfiaecglndldaaGreatDoor
open Go Go.L
theorem rn_step {b : List UInt8} (hb : b.length ≤ 1000000) {a u i : Nat} (hi : i < 10) (hu : u < 2 ^ 64) (ha : a + i < b.length) :
    wire_ReadNumber_bl2 b (a : Int) ((u : Int), (i : Int)) = if (i = 9 ∧ 1 < (b.getD (a + i) default).toNat) ∨ (0 < i ∧ (b.getD (a + i) default).toNat = 0) then some (.inr (0, 0, (1, (a : Int))))
      else if (b.getD (a + i) default).toNat < 128 then some (.inr (unzz (nu u i (b.getD (a + i) default)), ((a + i + 1 : Nat) : Int), (0, 0)))
      else some (.inl ((nu u i (b.getD (a + i) default) : Nat), ((i + 1 : Nat) : Int))) := by
  unfold wire_ReadNumber_bl2 wire_ReadNumber_k1 wire_fault;dsimp only;have e1 : ((a : Int) + (i : Int)).toNat = a + i := by omega
  have e2 : ((7 : Int) * (i : Int)).toNat = 7 * i := by omega
  simp only [e1, e2];generalize b.getD (a + i) default = c
  have hE : IntKind.u64.wrap (IntKind.u64.wrap ((c &&& 127).toNat : Int) * 2 ^ (7 * i)) = (((c &&& 127).toNat * 2 ^ (7 * i) % 18446744073709551616 : Nat) : Int) := by
    rw [wrap_u, wrap_u, show ((c &&& 127).toNat : Int) % 18446744073709551616 = ((c &&& 127).toNat : Int) by have := (c &&& 127).toNat_lt; omega];rw [Int.natCast_emod, Int.natCast_mul, Int.natCast_pow]
    rfl
  simp only [hE, Int.toNat_natCast];have hM : (c &&& 127).toNat * 2 ^ (7 * i) % 18446744073709551616 < 18446744073709551616 := Nat.mod_lt _ (by decide);have hn : (u ||| (c &&& 127).toNat * 2 ^ (7 * i) % 18446744073709551616) = nu u i c := rfl;simp only [hn];have hnl := nu_lt (i := i) (c := c) hu;generalize nu u i c = v at *;generalize (c &&& 127).toNat * 2 ^ (7 * i) % 18446744073709551616 = M at *;have k1 : I64 ((a : Int) + (i : Int)) := by unfold I64; omega
  have k2 : 0 ≤ (a : Int) + (i : Int) ∧ (a : Int) + (i : Int) < (b.length : Int) := by omega
  have k3 : I64 (7 * (i : Int)) := by unfold I64; omega
  have k4 : 0 ≤ 7 * (i : Int) ∧ 7 * (i : Int) ≤ 63 := by omega
  have k5 : ((0 : Int) ≤ (u : Int) ∧ (u : Int) < 2 ^ 64) ∧ (0 : Int) ≤ (M : Int) ∧ (M : Int) < 2 ^ 64 := by omega
  have k6 : ((0 : Int) ≤ (v : Int) ∧ (v : Int) < 2 ^ 64) ∧ (0 : Int) ≤ (1 : Int) ∧ (1 : Int) < 2 ^ 64 := by omega
  have h1 : v &&& (1 : Int).toNat = v % 2 := Nat.and_one_is_mod v;have h2 : IntKind.i64.wrap ((v % 2 : Nat) : Int) = ((v % 2 : Nat) : Int) := wrap64_lt (by omega);have h3 : (v : Int) / 2 = ((v / 2 : Nat) : Int) := by omega
  have h4 : IntKind.i64.wrap ((v / 2 : Nat) : Int) = ((v / 2 : Nat) : Int) := wrap64_lt (by omega);have k7 : I64 (-((v % 2 : Nat) : Int)) := by unfold I64; omega
  have k8 : I64 ((a : Int) + (i : Int) + 1) := by unfold I64; omega
  have k9 : I64 ((i : Int) + 1) := by unfold I64; omega
  have hx : xorI ((v / 2 : Nat) : Int) (-((v % 2 : Nat) : Int)) = unzz v := by
    have := xorI_sign (k := v / 2) (by omega);unfold unzz
    rcases Nat.mod_two_eq_zero_or_one v with h | h
    · rw [h, if_pos rfl]; exact this.1
    · rw [h, if_neg (by decide)]; exact this.2
  simp only [chk_pos k1, chk_pos k2, chk_pos k3, chk_pos k4, chk_pos k5, chk_pos k6, chk_pos k8, chk_pos k9, h1, h2, h3, h4, hx];simp only [chk_pos k7, Option.bind_some];rw [if_pos (by omega), if_neg (by omega)]
  by_cases c1 : i = 9 ∧ 1 < c.toNat
  · rw [if_pos (by omega), if_pos (.inl c1)]; rfl
  · rw [if_neg (by omega)]
    by_cases c2 : 0 < i
    · rw [if_pos (by omega)]
      by_cases c3 : c.toNat = 0
      · rw [if_pos (by omega), if_pos (.inr ⟨c2, c3⟩)]; rfl
      · rw [if_neg (show ¬ ((c.toNat : Int) = 0) by omega), if_neg (show ¬ ((i = 9 ∧ 1 < c.toNat) ∨ 0 < i ∧ c.toNat = 0) by omega)]
        by_cases c4 : c.toNat < 128
        · rw [if_pos (by omega), if_pos c4]; rfl
        · rw [if_neg (by omega), if_neg c4]; rfl
    · rw [if_neg (show ¬ ((0 : Int) < (i : Int)) by omega), if_neg (show ¬ ((i = 9 ∧ 1 < c.toNat) ∨ 0 < i ∧ c.toNat = 0) by omega)]
      by_cases c4 : c.toNat < 128
      · rw [if_pos (by omega), if_pos c4]; rfl
      · rw [if_neg (by omega), if_neg c4]; rfl
theorem rn_run {b : List UInt8} (hb : b.length ≤ 1000000) {a : Nat} (ha : a ≤ b.length) : ∀ (k i u : Nat), i + k = 10 → a + i ≤ b.length → u < 2 ^ 64 → ∃ r, Go.L.run (wire_ReadNumber_bl2 b (a : Int)) ((u : Int), (i : Int)) = some r ∧ ((r.2.2 = (0, 0) ∧ I64 r.1 ∧ ∃ m : Nat, r.2.1 = m ∧ a < m ∧ m ≤ b.length) ∨ r.2.2.1 ≠ 0)
  | 0, i, u, hi, _, _ => by
    refine ⟨(0, 0, (1, (a : Int))), run_inr (m := some (0, 0, (1, (a : Int)))) ?_, .inr (by simp)⟩;unfold wire_ReadNumber_bl2 wire_ReadNumber_k1 wire_fault;dsimp only;rw [if_neg (by omega)]
    rfl
  | k + 1, i, u, hi, hai, hu => by
    by_cases he : a + i = b.length
    · refine ⟨(0, 0, (15, (a : Int))), run_inr (m := some (0, 0, (15, (a : Int)))) ?_, .inr (by simp)⟩;unfold wire_ReadNumber_bl2 wire_fault;dsimp only;rw [if_pos (by omega), chk_pos (by unfold I64; omega), if_pos (by omega)]
      rfl
    · have hs := rn_step hb (a := a) (u := u) (i := i) (by omega) hu (by omega);generalize b.getD (a + i) default = c at hs
      split at hs
      · exact ⟨_, run_inr (m := some (0, 0, (1, (a : Int)))) hs, .inr (by simp)⟩
      · split at hs
        · exact ⟨_, run_inr (m := some (unzz (nu u i c), ((a + i + 1 : Nat) : Int), (0, 0))) hs, .inl ⟨rfl, unzz_i64 (nu_lt hu), a + i + 1, rfl, by omega, by omega⟩⟩
        · rw [run_inl hs];exact rn_run hb ha k (i + 1) _ (by omega) (by omega) (nu_lt hu)
/-- What a reader yields: something behind, or a fault. -/
def RdOk (b : List UInt8) (a : Nat) {α : Type} (r : α × Int × (Int × Int)) (P : α → Prop) : Prop := (r.2.2 = (0, 0) ∧ P r.1 ∧ ∃ m : Nat, r.2.1 = m ∧ a < m ∧ m ≤ b.length) ∨ r.2.2.1 ≠ 0
theorem rnum {b : List UInt8} (hb : b.length ≤ 1000000) {a : Nat} (ha : a ≤ b.length) : ∃ r, wire_ReadNumber b (a : Int) = some r ∧ RdOk b a r (fun n => I64 n) := by
  unfold wire_ReadNumber;rw [if_neg (by omega), if_neg (by omega)];exact rn_run hb ha 10 0 0 (by omega) (by omega) (by decide)
theorem rchunk {b : List UInt8} (hb : b.length ≤ 1000000) {a : Nat} (ha : a ≤ b.length) : ∃ r, wire_ReadChunk b (a : Int) = some r ∧ RdOk b a r (fun l => l.length ≤ b.length) := by
  unfold wire_ReadChunk wire_fault;obtain ⟨⟨n, nx, f⟩, h1, h2⟩ := rnum hb ha;rw [h1, Option.bind_some]
  rcases h2 with ⟨hf, hn, m, hm, h3, h4⟩ | hf
  · simp only at hf hn hm;subst hf; subst hm;dsimp only;rw [if_pos ⟨rfl, rfl⟩]
    by_cases c1 : n < 0
    · rw [if_pos c1]; exact ⟨_, rfl, .inr (by simp)⟩
    · rw [if_neg c1, chk_pos (by unfold I64; omega)]
      by_cases c2 : (b.length : Int) - (m : Int) < n
      · rw [if_pos c2]; exact ⟨_, rfl, .inr (by simp)⟩
      · have hln : ((b.drop (m : Int).toNat).take (((m : Int) + n).toNat - (m : Int).toNat)).length ≤ b.length := by
          rw [List.length_take, List.length_drop]; omega
        rw [if_neg c2, chk_pos (by unfold I64; omega), chk_pos (by omega), chk_pos (by unfold Go.E.Cap; simp only [List.length_nil]; omega), chk_pos (by unfold I64; omega)];exact ⟨_, rfl, .inl ⟨rfl, by simpa using hln, m + n.toNat, by show (m : Int) + n = _; omega, by omega, by omega⟩⟩
  · dsimp only;rw [if_neg (fun h => hf h.1)];exact ⟨_, rfl, .inr hf⟩
theorem rnums_run {b : List UInt8} (hb : b.length ≤ 1000000) {a0 : Nat} {x2 : Int × Int × (Int × Int)} (hx : x2.1 ≤ 1000000) : ∀ (k j : Nat) (l : List Int) (a : Nat), (j : Int) + k = x2.1 → a0 < a → a ≤ b.length → l.length = j → (∀ z ∈ l, I64 z) →
    ∃ r, Go.L.run (wreads_Number_bl2 b x2) (l, (a : Int), (j : Int)) = some r ∧ RdOk b a0 r (fun l => (∀ z ∈ l, I64 z) ∧ (l.length : Int) = x2.1)
  | 0, j, l, a, hj, h0, ha, hl, hz => by
    refine ⟨(l, (a : Int), (0, 0)), run_inr (m := some (l, (a : Int), (0, 0))) ?_, .inl ⟨rfl, ⟨hz, by show (l.length : Int) = _; omega⟩, a, rfl, h0, ha⟩⟩;unfold wreads_Number_bl2 wreads_Number_k1;dsimp only;rw [if_neg (by omega)]
  | k + 1, j, l, a, hj, h0, ha, hl, hz => by
    obtain ⟨⟨n, nx, f⟩, h1, h2⟩ := rnum hb ha
    rcases h2 with ⟨hf, hn, m, hm, h3, h4⟩ | hf
    · simp only at hf hn hm;subst hf; subst hm
      have hs : wreads_Number_bl2 b x2 (l, (a : Int), (j : Int)) = some (.inl (l ++ [n], (m : Int), ((j + 1 : Nat) : Int))) := by
        unfold wreads_Number_bl2;dsimp only;rw [if_pos (by omega), h1, Option.bind_some];dsimp only;rw [if_pos ⟨rfl, rfl⟩, chk_pos (by unfold Go.E.Cap; simp; omega), chk_pos (by unfold I64; omega)]
        rfl
      rw [run_inl hs]
      exact rnums_run hb hx k (j + 1) _ m (by omega) (by omega) h4 (by simp; omega) (fun z hz' => by
        rcases List.mem_append.1 hz' with h | h
        · exact hz z h
        · rw [List.mem_singleton] at h; subst h; exact hn)
    · refine ⟨([], 0, f), run_inr (m := some ([], 0, f)) ?_, .inr hf⟩;unfold wreads_Number_bl2;dsimp only;rw [if_pos (by omega), h1, Option.bind_some];dsimp only;rw [if_neg (fun h => hf h.1)]
theorem rnums {b : List UInt8} (hb : b.length ≤ 1000000) {a : Nat} (ha : a ≤ b.length) {most : Int} (hm0 : most ≤ 1000000) : ∃ r, wreads_Number b (a : Int) most = some r ∧ RdOk b a r (fun l => (∀ z ∈ l, I64 z) ∧ (l.length : Int) ≤ most) := by
  unfold wreads_Number wire_fault;obtain ⟨⟨n, nx, f⟩, h1, h2⟩ := rnum hb ha;rw [h1, Option.bind_some]
  rcases h2 with ⟨hf, hn, m, hm, h3, h4⟩ | hf
  · simp only at hf hn hm;subst hf; subst hm;dsimp only;rw [if_pos ⟨rfl, rfl⟩]
    by_cases c1 : n < 0 ∨ most < n
    · rw [if_pos c1]; exact ⟨_, rfl, .inr (by simp)⟩
    · rw [if_neg c1];obtain ⟨r, k1, k2⟩ := rnums_run hb (a0 := a) (x2 := (n, (m : Int), (0, 0))) (by show n ≤ _; omega) n.toNat 0 [] m (by show ((0 : Nat) : Int) + (n.toNat : Int) = n; omega) h3 h4 rfl (fun z hz => by cases hz);refine ⟨r, k1, ?_⟩
      rcases k2 with ⟨q1, ⟨q2, q3⟩, q4⟩ | q
      · exact .inl ⟨q1, ⟨q2, by have : (r.1.length : Int) = n := q3; omega⟩, q4⟩
      · exact .inr q
  · dsimp only;rw [if_neg (fun h => hf h.1)];exact ⟨_, rfl, .inr hf⟩
abbrev En : Type := Lf × List Int
/-- What is read of an entry. -/
def EnOk (b : List UInt8) (e : En) : Prop := e.1.1.length ≤ b.length ∧ I64 e.1.2.1 ∧ I64 e.1.2.2.1 ∧ e.1.2.2.2.length ≤ b.length ∧ (∀ z ∈ e.2, I64 z) ∧ e.2.length ≤ 64
theorem rentry {b : List UInt8} (hb : b.length ≤ 1000000) {a : Nat} (ha : a ≤ b.length) : ∃ r, shapes_readEntry b (a : Int) = some r ∧ RdOk b a r (EnOk b) := by
  unfold shapes_readEntry shapes_readEntry_k1 shapes_readEntry_k2 shapes_readEntry_k3 shapes_readEntry_k4 shapes_readEntry_k5;obtain ⟨⟨p, n1, f1⟩, h1, g1⟩ := rchunk hb ha;rw [h1, Option.bind_some]
  rcases g1 with ⟨hf, hp, m1, hm, l1, l1'⟩ | hf
  rotate_left
  · dsimp only; rw [if_neg (fun h => hf h.1)]; exact ⟨_, rfl, .inr hf⟩
  simp only at hf hp hm; subst hf; subst hm; dsimp only; rw [if_pos ⟨rfl, rfl⟩];obtain ⟨⟨k, n2, f2⟩, h2, g2⟩ := rnum hb l1';rw [h2, Option.bind_some]
  rcases g2 with ⟨hf, hk, m2, hm, l2, l2'⟩ | hf
  rotate_left
  · dsimp only; rw [if_neg (fun h => hf h.1)]; exact ⟨_, rfl, .inr hf⟩
  simp only at hf hk hm; subst hf; subst hm; dsimp only; rw [if_pos ⟨rfl, rfl⟩];obtain ⟨⟨v, n3, f3⟩, h3, g3⟩ := rnum hb l2';rw [h3, Option.bind_some]
  rcases g3 with ⟨hf, hv, m3, hm, l3, l3'⟩ | hf
  rotate_left
  · dsimp only; rw [if_neg (fun h => hf h.1)]; exact ⟨_, rfl, .inr hf⟩
  simp only at hf hv hm; subst hf; subst hm; dsimp only; rw [if_pos ⟨rfl, rfl⟩];obtain ⟨⟨t, n4, f4⟩, h4, g4⟩ := rchunk hb l3';rw [h4, Option.bind_some]
  rcases g4 with ⟨hf, ht, m4, hm, l4, l4'⟩ | hf
  rotate_left
  · dsimp only; rw [if_neg (fun h => hf h.1)]; exact ⟨_, rfl, .inr hf⟩
  simp only at hf ht hm; subst hf; subst hm; dsimp only; rw [if_pos ⟨rfl, rfl⟩];obtain ⟨⟨i, n5, f5⟩, h5, g5⟩ := rnums hb l4' (most := 64) (by decide);rw [h5, Option.bind_some]
  rcases g5 with ⟨hf, hi, m5, hm, l5, l5'⟩ | hf
  rotate_left
  · dsimp only; rw [if_neg (fun h => hf h.1)]; exact ⟨_, rfl, .inr hf⟩
  simp only at hf hi hm; subst hf; subst hm; dsimp only; rw [if_pos ⟨rfl, rfl⟩];exact ⟨_, rfl, .inl ⟨rfl, ⟨hp, hk, hv, ht, hi.1, by have := hi.2; show i.length ≤ 64; omega⟩, m5, rfl, by omega, l5'⟩⟩
theorem rentries_run {b : List UInt8} (hb : b.length ≤ 1000000) {a0 : Nat} {x2 : Int × Int × (Int × Int)} (hx : x2.1 ≤ 1000000) : ∀ (k j : Nat) (l : List En) (a : Nat), (j : Int) + k = x2.1 → a0 < a → a ≤ b.length → l.length = j → (∀ z ∈ l, EnOk b z) →
    ∃ r, Go.L.run (wreads_entry_bl2 b x2) (l, (a : Int), (j : Int)) = some r ∧ RdOk b a0 r (fun l => (∀ z ∈ l, EnOk b z) ∧ (l.length : Int) = x2.1)
  | 0, j, l, a, hj, h0, ha, hl, hz => by
    refine ⟨(l, (a : Int), (0, 0)), run_inr (m := some (l, (a : Int), (0, 0))) ?_, .inl ⟨rfl, ⟨hz, by show (l.length : Int) = _; omega⟩, a, rfl, h0, ha⟩⟩;unfold wreads_entry_bl2 wreads_entry_k1;dsimp only;rw [if_neg (by omega)]
  | k + 1, j, l, a, hj, h0, ha, hl, hz => by
    obtain ⟨⟨n, nx, f⟩, h1, h2⟩ := rentry hb ha
    rcases h2 with ⟨hf, hn, m, hm, h3, h4⟩ | hf
    · simp only at hf hn hm;subst hf; subst hm
      have hs : wreads_entry_bl2 b x2 (l, (a : Int), (j : Int)) = some (.inl (l ++ [n], (m : Int), ((j + 1 : Nat) : Int))) := by
        unfold wreads_entry_bl2;dsimp only;rw [if_pos (by omega), h1, Option.bind_some];dsimp only;rw [if_pos ⟨rfl, rfl⟩, chk_pos (by unfold Go.E.Cap; simp; omega), chk_pos (by unfold I64; omega)]
        rfl
      rw [run_inl hs]
      exact rentries_run hb hx k (j + 1) _ m (by omega) (by omega) h4 (by simp; omega) (fun z hz' => by
        rcases List.mem_append.1 hz' with h | h
        · exact hz z h
        · rw [List.mem_singleton] at h; subst h; exact hn)
    · refine ⟨([], 0, f), run_inr (m := some ([], 0, f)) ?_, .inr hf⟩;unfold wreads_entry_bl2;dsimp only;rw [if_pos (by omega), h1, Option.bind_some];dsimp only;rw [if_neg (fun h => hf h.1)]
theorem rentries {b : List UInt8} (hb : b.length ≤ 1000000) {a : Nat} (ha : a ≤ b.length) {most : Int} (hm0 : most ≤ 1000000) : ∃ r, wreads_entry b (a : Int) most = some r ∧ RdOk b a r (fun l => (∀ z ∈ l, EnOk b z) ∧ (l.length : Int) ≤ most) := by
  unfold wreads_entry wire_fault;obtain ⟨⟨n, nx, f⟩, h1, h2⟩ := rnum hb ha;rw [h1, Option.bind_some]
  rcases h2 with ⟨hf, hn, m, hm, h3, h4⟩ | hf
  · simp only at hf hn hm;subst hf; subst hm;dsimp only;rw [if_pos ⟨rfl, rfl⟩]
    by_cases c1 : n < 0 ∨ most < n
    · rw [if_pos c1]; exact ⟨_, rfl, .inr (by simp)⟩
    · rw [if_neg c1];obtain ⟨r, k1, k2⟩ := rentries_run hb (a0 := a) (x2 := (n, (m : Int), (0, 0))) (by show n ≤ _; omega) n.toNat 0 [] m (by show ((0 : Nat) : Int) + (n.toNat : Int) = n; omega) h3 h4 rfl (fun z hz => by cases hz);refine ⟨r, k1, ?_⟩
      rcases k2 with ⟨q1, ⟨q2, q3⟩, q4⟩ | q
      · exact .inl ⟨q1, ⟨q2, by have : (r.1.length : Int) = n := q3; omega⟩, q4⟩
      · exact .inr q
  · dsimp only;rw [if_neg (fun h => hf h.1)];exact ⟨_, rfl, .inr hf⟩
end Go.Proofs.YtmfiaecglndldaaGreatDoor
end
section
namespace Go.L
/-- Some end of a list has a property. -/
def sufAny {α : Type} (f : List α → Bool) : List α → Bool
  | [] => f []
  | y :: q => f (y :: q) || sufAny f q
/-- Whether steps match those of a pattern. -/
def fits : List (List UInt8) → List (List UInt8) → Bool
  | [], q => decide (q.length = 0)
  | x :: p, q => if x = [42, 42] then sufAny (fun r => fits p r) q else match q with
    | [] => false
    | y :: q' => (decide (x = [42]) || decide (x = y)) && fits p q'
/-- A step that is kept: not a second one of two steps "**". -/
def kp (l : List (List UInt8)) (j : Nat) : Bool := decide (j = 0 ∨ ¬ (l.getD j default = [42, 42] ∧ l.getD (j - 1) default = [42, 42]))
def kept (l : List (List UInt8)) (m : Nat) : List (List UInt8) := ((List.range m).filter (kp l)).map fun j => l.getD j default
theorem kept_succ (l : List (List UInt8)) (m : Nat) : kept l (m + 1) = kept l m ++ if kp l m then [l.getD m default] else [] := by
  unfold kept;rw [List.range_succ, List.filter_append, List.map_append]
  congr 1
  by_cases h : kp l m = true <;> simp [h]
theorem kept_len (l : List (List UInt8)) (m : Nat) : (kept l m).length ≤ m := by
  unfold kept; rw [List.length_map]; exact Nat.le_trans (List.length_filter_le _ _) (by simp)
theorem kept_all {l : List (List UInt8)} {m : Nat} (hm : m ≤ l.length) (h : ∀ j, j < m → kp l j = true) : kept l m = l.take m := by
  induction m with
  | zero => rfl
  | succ m ih =>
    rw [kept_succ, ih (by omega) (fun j hj => h j (by omega)), h m (by omega), if_pos rfl, List.take_add_one, List.getElem?_eq_getElem (by omega : m < l.length)];simp [List.getD_eq_getElem?_getD, List.getElem?_eq_getElem (by omega : m < l.length)]
theorem kept_last (l : List (List UInt8)) : ∀ m, kept l (m + 1) ≠ [] ∧ ((kept l (m + 1)).getD ((kept l (m + 1)).length - 1) default = [42, 42] ↔ l.getD m default = [42, 42])
  | 0 => by
    have : kept l 1 = [l.getD 0 default] := by rw [kept_succ]; rfl
    exact ⟨by rw [this]; simp, by rw [this]; exact Iff.rfl⟩
  | m + 1 => by
    obtain ⟨h1, h2⟩ := kept_last l m;rw [kept_succ]
    by_cases hk : kp l (m + 1) = true
    · rw [if_pos hk];refine ⟨by simp, ?_⟩;simp
    · rw [if_neg hk, List.append_nil];refine ⟨h1, h2.trans ?_⟩;unfold kp at hk;simp only [Nat.add_sub_cancel, decide_eq_true_eq, not_or, Decidable.not_not] at hk;exact ⟨fun _ => hk.2.1, fun _ => hk.2.2⟩
end Go.L
namespace Go.Proofs.YtmfiaecglndldaaGreatDoor
open Go Go.L
theorem suf_run {self : List (List UInt8) → List (List UInt8) → Option Bool} {p q : List (List UInt8)} {x : List UInt8} (hq : q.length ≤ 1000000000000) (hs : ∀ r : List (List UInt8), r.length ≤ q.length → self p r = some (fits p r)) :
    ∀ (d i : Nat), i + d = q.length → Go.L.run (shapes_match_body_bl3 (x :: p) q self) (i : Int) = some (sufAny (fun r => fits p r) (q.drop i)) := by
  have hend : Go.L.run (shapes_match_body_bl3 (x :: p) q self) ((q.length + 1 : Nat) : Int) = some false := by
    refine run_inr (m := some false) ?_;unfold shapes_match_body_bl3 shapes_match_body_k2;rw [if_neg (by omega)]
  have hb : ∀ i : Nat, i ≤ q.length → shapes_match_body_bl3 (x :: p) q self (i : Int) = if fits p (q.drop i) then some (.inr true) else some (.inl ((i + 1 : Nat) : Int)) := by
    intro i hi;unfold shapes_match_body_bl3;have h1 : ((x :: p).drop (1 : Int).toNat) = p := rfl;rw [if_pos (by omega), chk_pos (by simp only [List.length_cons]; omega), chk_pos (by omega), h1, Int.toNat_natCast, hs _ (by simp), Option.bind_some, chk_pos (by unfold I64; omega)]
    rfl
  intro d
  induction d with
  | zero =>
    intro i hi;obtain rfl : i = q.length := by omega
    have h := hb q.length (Nat.le_refl _);rw [List.drop_eq_nil_of_le (Nat.le_refl _)] at h ⊢;unfold sufAny
    by_cases hf : fits p [] = true
    · rw [if_pos hf] at h;rw [run_inr (m := some true) h, hf]
    · rw [if_neg hf] at h;rw [run_inl h, hend]
      simpa using hf
  | succ d ih =>
    intro i hi;have h := hb i (by omega);rw [drop_cons (by omega : i < q.length)] at h ⊢;unfold sufAny
    by_cases hf : fits p (q.getD i default :: q.drop (i + 1)) = true
    · rw [if_pos hf] at h;rw [run_inr (m := some true) h, hf]
      rfl
    · rw [if_neg hf] at h;rw [run_inl h, ih (i + 1) (by omega)];have : fits p (q.getD i default :: q.drop (i + 1)) = false := by simpa using hf
      rw [this, Bool.false_or]
theorem match_n : ∀ (p : List (List UInt8)) (n : Nat) (q : List (List UInt8)), p.length < n → q.length ≤ 1000000000000 → shapes_match_n n p q = some (fits p q)
  | [], 0, _, h, _ => by simp at h
  | _ :: _, 0, _, h, _ => by simp at h
  | [], n + 1, q, _, hq => by
    show shapes_match_body (shapes_match_n n) [] q = _
    unfold shapes_match_body fits;rw [if_pos (show ((([] : List (List UInt8)).length : Nat) : Int) = 0 from rfl)]
    congr 1
    rw [decide_eq_decide];omega
  | x :: p, n + 1, q, hp, hq => by
    show shapes_match_body (shapes_match_n n) (x :: p) q = _
    have ih : ∀ r : List (List UInt8), r.length ≤ q.length → shapes_match_n n p r = some (fits p r) := fun r hr => match_n p n r (by simp at hp; omega) (by omega);unfold shapes_match_body fits;have hg : (x :: p).getD ((0 : Int).toNat) default = x := rfl;rw [if_neg (by simp only [List.length_cons]; omega), chk_pos (by simp only [List.length_cons]; omega), hg]
    by_cases hx : x = [42, 42]
    · rw [if_pos hx, if_pos hx, chk_pos (by unfold I64; omega)];exact suf_run (x := x) hq ih q.length 0 (by omega)
    · rw [if_neg hx, if_neg hx];unfold shapes_match_body_k1
      cases q with
      | nil => rfl
      | cons y q' =>
        have h1 : (0 : Int) < ((y :: q').length : Int) := by simp only [List.length_cons]; omega
        have h2 : (0 : Int) ≤ 0 ∧ (0 : Int) < ((x :: p).length : Int) := by simp only [List.length_cons]; omega
        have h3 : (0 : Int) ≤ 1 ∧ (1 : Int) ≤ ((x :: p).length : Int) := by simp only [List.length_cons]; omega
        have h4 : (0 : Int) ≤ 1 ∧ (1 : Int) ≤ ((y :: q').length : Int) := by simp only [List.length_cons]; omega
        have h5 : (0 : Int) ≤ 0 ∧ (0 : Int) < ((y :: q').length : Int) := by simp only [List.length_cons]; omega
        have e1 : (x :: p).drop (1 : Int).toNat = p := rfl;have e2 : (y :: q').drop (1 : Int).toNat = q' := rfl;have e3 : (y :: q').getD ((0 : Int).toNat) default = y := rfl;rw [if_pos h1];simp only [chk_pos h2, chk_pos h3, chk_pos h4, chk_pos h5, hg, e1, e2, e3, ih q' (by simp), Option.bind_some]
        by_cases h6 : x = [42]
        · rw [if_pos h6]; simp [h6]
        · rw [if_neg h6]
          by_cases h7 : x = y <;> simp [h6, h7]
theorem rsuf_run {self : List (List UInt8) → List (List UInt8) → Option Bool} {p q : List (List UInt8)} {x : List UInt8} (hq : q.length ≤ 1000000000000) (hs : ∀ r : List (List UInt8), r.length ≤ q.length → self p r = some (fits p r)) :
    ∀ (d i : Nat), i + d = q.length → Go.L.run (ref4_Fits_body_bl3 (x :: p) q self) (i : Int) = some (sufAny (fun r => fits p r) (q.drop i)) := by
  have hend : Go.L.run (ref4_Fits_body_bl3 (x :: p) q self) ((q.length + 1 : Nat) : Int) = some false := by
    refine run_inr (m := some false) ?_;unfold ref4_Fits_body_bl3 ref4_Fits_body_k2;rw [if_neg (by omega)]
  have hb : ∀ i : Nat, i ≤ q.length → ref4_Fits_body_bl3 (x :: p) q self (i : Int) = if fits p (q.drop i) then some (.inr true) else some (.inl ((i + 1 : Nat) : Int)) := by
    intro i hi;unfold ref4_Fits_body_bl3;have h1 : ((x :: p).drop (1 : Int).toNat) = p := rfl;rw [if_pos (by omega), chk_pos (by simp only [List.length_cons]; omega), chk_pos (by omega), h1, Int.toNat_natCast, hs _ (by simp), Option.bind_some, chk_pos (by unfold I64; omega)]
    rfl
  intro d
  induction d with
  | zero =>
    intro i hi;obtain rfl : i = q.length := by omega
    have h := hb q.length (Nat.le_refl _);rw [List.drop_eq_nil_of_le (Nat.le_refl _)] at h ⊢;unfold sufAny
    by_cases hf : fits p [] = true
    · rw [if_pos hf] at h;rw [run_inr (m := some true) h, hf]
    · rw [if_neg hf] at h;rw [run_inl h, hend]
      simpa using hf
  | succ d ih =>
    intro i hi;have h := hb i (by omega);rw [drop_cons (by omega : i < q.length)] at h ⊢;unfold sufAny
    by_cases hf : fits p (q.getD i default :: q.drop (i + 1)) = true
    · rw [if_pos hf] at h;rw [run_inr (m := some true) h, hf]
      rfl
    · rw [if_neg hf] at h;rw [run_inl h, ih (i + 1) (by omega)];have : fits p (q.getD i default :: q.drop (i + 1)) = false := by simpa using hf
      rw [this, Bool.false_or]
theorem fits_n : ∀ (p : List (List UInt8)) (n : Nat) (q : List (List UInt8)), p.length < n → q.length ≤ 1000000000000 → ref4_Fits_n n p q = some (fits p q)
  | [], 0, _, h, _ => by simp at h
  | _ :: _, 0, _, h, _ => by simp at h
  | [], n + 1, q, _, hq => by
    show ref4_Fits_body (ref4_Fits_n n) [] q = _
    unfold ref4_Fits_body fits;rw [if_pos (show ((([] : List (List UInt8)).length : Nat) : Int) = 0 from rfl)]
    congr 1
    rw [decide_eq_decide];omega
  | x :: p, n + 1, q, hp, hq => by
    show ref4_Fits_body (ref4_Fits_n n) (x :: p) q = _
    have ih : ∀ r : List (List UInt8), r.length ≤ q.length → ref4_Fits_n n p r = some (fits p r) := fun r hr => fits_n p n r (by simp at hp; omega) (by omega);unfold ref4_Fits_body fits;have hg : (x :: p).getD ((0 : Int).toNat) default = x := rfl;rw [if_neg (by simp only [List.length_cons]; omega), chk_pos (by simp only [List.length_cons]; omega), hg]
    by_cases hx : x = [42, 42]
    · rw [if_pos hx, if_pos hx];exact rsuf_run (x := x) hq ih q.length 0 (by omega)
    · rw [if_neg hx, if_neg hx];unfold ref4_Fits_body_k1
      cases q with
      | nil => rfl
      | cons y q' =>
        have h1 : (0 : Int) < ((y :: q').length : Int) := by simp only [List.length_cons]; omega
        have h2 : (0 : Int) ≤ 0 ∧ (0 : Int) < ((x :: p).length : Int) := by simp only [List.length_cons]; omega
        have h3 : (0 : Int) ≤ 1 ∧ (1 : Int) ≤ ((x :: p).length : Int) := by simp only [List.length_cons]; omega
        have h4 : (0 : Int) ≤ 1 ∧ (1 : Int) ≤ ((y :: q').length : Int) := by simp only [List.length_cons]; omega
        have h5 : (0 : Int) ≤ 0 ∧ (0 : Int) < ((y :: q').length : Int) := by simp only [List.length_cons]; omega
        have e1 : (x :: p).drop (1 : Int).toNat = p := rfl;have e2 : (y :: q').drop (1 : Int).toNat = q' := rfl;have e3 : (y :: q').getD ((0 : Int).toNat) default = y := rfl;rw [if_pos h1];simp only [chk_pos h2, chk_pos h3, chk_pos h4, chk_pos h5, hg, e1, e2, e3, ih q' (by simp), Option.bind_some]
        by_cases h6 : x = [42]
        · rw [if_pos h6]; simp [h6]
        · rw [if_neg h6]
          by_cases h7 : x = y <;> simp [h6, h7]
theorem m1_eq (a b : List UInt8) : shapes_matches_1 a b = some (decide (a = [42, 42] ∧ b = [42, 42])) := by
  unfold shapes_matches_1
  by_cases h : a = [42, 42] <;> simp [h]
/-- The steps of a pattern, of some steps "**" in a row one. -/
def col (l : List (List UInt8)) : List (List UInt8) := kept l l.length
theorem col_len (l : List (List UInt8)) : (col l).length ≤ l.length := kept_len l l.length
theorem cf_in {l : List (List UInt8)} (hl : l.length ≤ 1000000000000) {k0 : Nat} (h0 : 1 ≤ k0) (hk : k0 < l.length) (hall : ∀ j, j < k0 → kp l j = true) (hno : kp l k0 = false) :
    slices_CompactFunc_string_string_l5 (k0 : Int) (l, (k0 : Int), (1 : Int)) = some (.inr (col l)) := by
  unfold slices_CompactFunc_string_string_l5;refine run_inv (fun s => ∃ (m : List (List UInt8)) (k k2 : Nat), s = (m, (k : Int), (k2 : Int)) ∧ m.length = l.length ∧ m.drop (k0 + k2 - 1) = l.drop (k0 + k2 - 1) ∧ m.take k = kept l (k0 + k2) ∧ k = (kept l (k0 + k2)).length ∧ k ≤ k0 + k2 - 1 ∧ 1 ≤ k2 ∧ k0 + k2 ≤ l.length) (fun s => l.length - s.2.2.toNat) ?_ ?_
  · rintro _ ⟨m, k, k2, rfl, hm, hd, ht, hkl, hkk, h2, hle⟩;have hdl : (m.drop k0).length = l.length - k0 := by rw [List.length_drop, hm]
    by_cases hc : k0 + k2 < l.length
    · left
      have g1 : (m.drop k0).getD k2 default = l.getD (k0 + k2) default := by
        have : (m.drop (k0 + k2 - 1))[1]? = (l.drop (k0 + k2 - 1))[1]? := by rw [hd]
        rw [List.getElem?_drop, List.getElem?_drop, show k0 + k2 - 1 + 1 = k0 + k2 by omega] at this;rw [List.getD_eq_getElem?_getD, List.getD_eq_getElem?_getD, List.getElem?_drop, this]
      have g2 : (m.drop k0).getD (k2 - 1) default = l.getD (k0 + k2 - 1) default := by
        have : (m.drop (k0 + k2 - 1))[0]? = (l.drop (k0 + k2 - 1))[0]? := by rw [hd]
        rw [List.getElem?_drop, List.getElem?_drop, Nat.add_zero] at this;rw [List.getD_eq_getElem?_getD, List.getD_eq_getElem?_getD, List.getElem?_drop, show k0 + (k2 - 1) = k0 + k2 - 1 by omega, this]
      have hks := kept_succ l (k0 + k2)
      by_cases hp : kp l (k0 + k2) = true
      · refine ⟨(m.set k (l.getD (k0 + k2) default), ((k + 1 : Nat) : Int), ((k2 + 1 : Nat) : Int)), ?_, ⟨_, k + 1, k2 + 1, rfl, by rw [List.length_set, hm], ?_, ?_, ?_, by omega, by omega, by omega⟩, by simp only [Int.toNat_natCast]; omega⟩
        · unfold slices_CompactFunc_string_string_bl5;dsimp only;rw [Int.toNat_natCast, if_pos (by omega), chk_pos (by omega), chk_pos (by unfold I64; omega), chk_pos (by omega), Int.toNat_natCast, show ((k2 : Int) - 1).toNat = k2 - 1 by omega, g1, g2, m1_eq, Option.bind_some]
          have hx : decide (l.getD (k0 + k2) default = [42, 42] ∧ l.getD (k0 + k2 - 1) default = [42, 42]) = false := by
            unfold kp at hp;rw [decide_eq_true_eq] at hp;rw [decide_eq_false_iff_not]
            rcases hp with hp | hp
            · omega
            · exact hp
          rw [hx, if_pos (by decide), chk_pos (by omega), chk_pos (by omega), chk_pos (by unfold I64; omega), chk_pos (by unfold I64; omega), Int.toNat_natCast]
          rfl
        · rw [show k0 + (k2 + 1) - 1 = k0 + k2 by omega, List.drop_set_of_lt (by omega)];have : (m.drop (k0 + k2 - 1)).drop 1 = (l.drop (k0 + k2 - 1)).drop 1 := by rw [hd]
          rwa [List.drop_drop, List.drop_drop, show k0 + k2 - 1 + 1 = k0 + k2 by omega] at this
        · rw [show k0 + (k2 + 1) = k0 + k2 + 1 by omega, hks, if_pos hp, List.take_add_one, List.take_set_of_le (Nat.le_refl _), ht, List.getElem?_set_self (by omega)]
          rfl
        · rw [show k0 + (k2 + 1) = k0 + k2 + 1 by omega, hks, if_pos hp, List.length_append, ← hkl]; rfl
      · have hp' : kp l (k0 + k2) = false := by simpa using hp
        refine ⟨(m, (k : Int), ((k2 + 1 : Nat) : Int)), ?_, ⟨m, k, k2 + 1, rfl, hm, ?_, ?_, ?_, by omega, by omega, by omega⟩, by simp only [Int.toNat_natCast]; omega⟩
        · unfold slices_CompactFunc_string_string_bl5;dsimp only;rw [Int.toNat_natCast, if_pos (by omega), chk_pos (by omega), chk_pos (by unfold I64; omega), chk_pos (by omega), Int.toNat_natCast, show ((k2 : Int) - 1).toNat = k2 - 1 by omega, g1, g2, m1_eq, Option.bind_some]
          have hx : decide (l.getD (k0 + k2) default = [42, 42] ∧ l.getD (k0 + k2 - 1) default = [42, 42]) = true := by
            unfold kp at hp';rw [decide_eq_false_iff_not] at hp';rw [decide_eq_true_eq];exact Decidable.not_not.1 (fun hh => hp' (.inr hh))
          rw [hx, if_neg (by decide), chk_pos (by unfold I64; omega)]
          rfl
        · rw [show k0 + (k2 + 1) - 1 = k0 + k2 by omega];have : (m.drop (k0 + k2 - 1)).drop 1 = (l.drop (k0 + k2 - 1)).drop 1 := by rw [hd]
          rwa [List.drop_drop, List.drop_drop, show k0 + k2 - 1 + 1 = k0 + k2 by omega] at this
        · rw [show k0 + (k2 + 1) = k0 + k2 + 1 by omega, hks, hp']
          simpa using ht
        · rw [show k0 + (k2 + 1) = k0 + k2 + 1 by omega, hks, hp']
          simpa using hkl
    · right
      have he : k0 + k2 = l.length := by omega
      unfold slices_CompactFunc_string_string_bl5 slices_CompactFunc_string_string_k4;dsimp only;rw [Int.toNat_natCast, if_neg (by omega), Int.toNat_natCast, chk_pos (by omega), chk_pos (by simp; omega)]
      congr 1
      have htl : (m.take k).length = k := by rw [List.length_take]; omega
      rw [show (m.take k ++ List.replicate (m.length - k) ([] : List UInt8)).take k = m.take k by rw [List.take_append_of_le_length (by omega), List.take_of_length_le (by omega)], ht, he]
      rfl
  · have hks := kept_succ l k0;have hka := kept_all (l := l) (m := k0) (by omega) hall;refine ⟨l, k0, 1, rfl, rfl, rfl, ?_, ?_, by omega, by omega, by omega⟩
    · rw [hks, hno, hka]; simp
    · rw [hks, hno, hka]; simp; omega
theorem cf_out {l : List (List UInt8)} (hl : l.length ≤ 1000000000000) : ∀ (d k : Nat), k + d = l.length → 1 ≤ k → (∀ j, j < k → kp l j = true) → Go.L.run slices_CompactFunc_string_string_bl2 (l, (k : Int)) = some (col l) := by
  intro d
  induction d with
  | zero =>
    intro k hk h1 hall;refine run_inr (m := some (col l)) ?_;unfold slices_CompactFunc_string_string_bl2 slices_CompactFunc_string_string_k1;dsimp only;rw [if_neg (by omega)];unfold col;rw [kept_all (Nat.le_refl _) (fun j hj => hall j (by omega)), List.take_length]
  | succ d ih =>
    intro k hk h1 hall
    by_cases hp : kp l k = true
    · have hb : slices_CompactFunc_string_string_bl2 (l, (k : Int)) = some (.inl (l, ((k + 1 : Nat) : Int))) := by
        unfold slices_CompactFunc_string_string_bl2;dsimp only;rw [if_pos (by omega), chk_pos (by omega), chk_pos (by unfold I64; omega), chk_pos (by omega), Int.toNat_natCast, show ((k : Int) - 1).toNat = k - 1 by omega, m1_eq, Option.bind_some]
        have hx : decide (l.getD k default = [42, 42] ∧ l.getD (k - 1) default = [42, 42]) = false := by
          unfold kp at hp;rw [decide_eq_true_eq] at hp;rw [decide_eq_false_iff_not]
          rcases hp with hp | hp
          · omega
          · exact hp
        rw [hx, if_neg (by decide)];unfold slices_CompactFunc_string_string_k3;rw [chk_pos (by unfold I64; omega)]
        rfl
      rw [run_inl hb];refine ih (k + 1) (by omega) (by omega) (fun j hj => ?_)
      rcases Nat.lt_succ_iff_lt_or_eq.1 hj with h | rfl
      · exact hall j h
      · exact hp
    · have hp' : kp l k = false := by simpa using hp
      refine run_inr (m := some (col l)) ?_;unfold slices_CompactFunc_string_string_bl2;dsimp only;rw [if_pos (by omega), chk_pos (by omega), chk_pos (by unfold I64; omega), chk_pos (by omega), Int.toNat_natCast, show ((k : Int) - 1).toNat = k - 1 by omega, m1_eq, Option.bind_some]
      have hx : decide (l.getD k default = [42, 42] ∧ l.getD (k - 1) default = [42, 42]) = true := by
        unfold kp at hp';rw [decide_eq_false_iff_not] at hp';rw [decide_eq_true_eq];exact Decidable.not_not.1 (fun hh => hp' (.inr hh))
      rw [hx, if_pos rfl, chk_pos (by omega), cf_in hl h1 (by omega) hall hp']
      rfl
theorem cfunc_eq {l : List (List UInt8)} (hl : l.length ≤ 1000000000000) : slices_CompactFunc_string_string l = some (col l) := by
  unfold slices_CompactFunc_string_string
  have h0 : ∀ j, j < 1 → kp l j = true := fun j hj => by
    have : j = 0 := by omega
    subst this;unfold kp; simp
  by_cases h : (l.length : Int) < 2
  · rw [if_pos h];unfold col;rw [kept_all (Nat.le_refl _) (fun j hj => h0 j (by omega)), List.take_length]
  · rw [if_neg h];exact cf_out hl (l.length - 1) 1 (by omega) (Nat.le_refl _) h0
theorem rmatch_eq {a b : List UInt8} (ha : a.length < 900) (hb : b.length ≤ 100000000000) : ref4_Matches a b = some (fits (col (sl a)) (sl b)) := by
  unfold ref4_Matches;have hla := sl_len a;have hlb := sl_len b;rw [ref_steps (by omega), Option.bind_some];unfold ref4_Matches_l2;generalize hX : sl a = l at *;have hk0 : kept l 0 = [] := rfl;refine run_count (fun i => (kept l i, ((i : Nat) : Int))) l.length (fun i hi => ?_) ?_ 0 (Nat.zero_le _)
  · have hkl := kept_len l i;unfold ref4_Matches_bl2;simp only [Int.toNat_natCast];have hc : Go.E.Cap 16 ((kept l i).length + [l.getD i default].length) := by unfold Go.E.Cap; simp; omega
    have h64 : I64 ((i : Int) + 1) := by unfold I64; omega
    have hin : 0 ≤ (i : Int) ∧ (i : Int) < (l.length : Int) := by omega
    rw [if_pos (by omega), chk_pos hin];simp only [chk_pos hc, chk_pos h64, chk_pos hin]
    cases i with
    | zero =>
      have hkk : kp l 0 = true := by unfold kp; simp
      rw [kept_succ, hkk, if_pos rfl]
      by_cases hx : l.getD 0 default = [42, 42]
      · rw [if_pos hx, if_pos (by rw [hk0]; rfl)]; rfl
      · rw [if_neg hx]; rfl
    | succ m =>
      obtain ⟨k1, k2⟩ := kept_last l m;have k3 : 0 < (kept l (m + 1)).length := List.length_pos_iff.2 k1;rw [kept_succ l (m + 1)];have hnat : (((kept l (m + 1)).length : Int) - 1).toNat = (kept l (m + 1)).length - 1 := by omega
      by_cases hx : l.getD (m + 1) default = [42, 42]
      · rw [if_pos hx, if_neg (by omega), chk_pos (by unfold I64; omega), chk_pos (by omega), hnat]
        by_cases hy : l.getD m default = [42, 42]
        · have hkk : kp l (m + 1) = false := by unfold kp; rw [decide_eq_false_iff_not]; simp only [Nat.add_sub_cancel]; rintro (h | h); omega; exact h ⟨hx, hy⟩
          rw [if_pos (k2.2 hy), hkk];simp
        · have hkk : kp l (m + 1) = true := by unfold kp; rw [decide_eq_true_eq]; exact .inr (fun h => hy h.2)
          rw [if_neg (fun h => hy (k2.1 h)), hkk]
          rfl
      · have hkk : kp l (m + 1) = true := by unfold kp; rw [decide_eq_true_eq]; exact .inr (fun h => hx h.1)
        rw [if_neg hx, hkk]
        rfl
  · unfold ref4_Matches_bl2 ref4_Matches_k1;dsimp only;rw [if_neg (by omega), ref_steps (by omega), Option.bind_some]
    congr 1
    have := col_len l;have hf : ref4_Fits (kept l l.length) (sl b) = some (fits (col l) (sl b)) := fits_n (col l) 1000 (sl b) (by omega) (by omega);rw [hf]
    rfl
theorem matches_eq {a b : List UInt8} (ha : a.length < 900) (hb : b.length < 4294967281) : shapes_matches a b = some (fits (col (sl a)) (sl b)) := by
  unfold shapes_matches;have hla := sl_len a;have hlb := sl_len b;have := col_len (sl a);rw [steps_eq (by omega), Option.bind_some, cfunc_eq (by omega), Option.bind_some, steps_eq (by omega), Option.bind_some];have hf : shapes_match (col (sl a)) (sl b) = some (fits (col (sl a)) (sl b)) := match_n (col (sl a)) 1000 (sl b) (by omega) (by omega);rw [hf]
  rfl
theorem pf_zero (a : List UInt8) : (pf a).1 = 0 → pf a = (0, 0) ∧ a.length ≤ 64 := by
  unfold pf
  split
  · intro h; simp at h
  · split
    · intro h; simp at h
    · intro _; exact ⟨rfl, by omega⟩
end Go.Proofs.YtmfiaecglndldaaGreatDoor
end
section
namespace Go.L
def chunkF (s : List UInt8) : List UInt8 := vint (zz (s.length : Int)) ++ s
def itemsF (l : List Int) : List UInt8 := vint (zz (l.length : Int)) ++ l.flatMap fun i => vint (zz i)
end Go.L
namespace Go.Proofs.YtmfiaecglndldaaGreatDoor
open Go Go.L
/-- The form of an entry, of an index. -/
def lform (e : En) : List UInt8 := [chunkF e.1.1, vint (zz e.1.2.1), vint (zz e.1.2.2.1), chunkF e.1.2.2.2, itemsF e.2].flatten
def iform (n : Int) (es : List En) : List UInt8 := vint (zz n) ++ (vint (zz (es.length : Int)) ++ es.flatMap lform)
/-- Not too great for a machine. -/
def EnS (e : En) : Prop := e.1.1.length ≤ 2000000 ∧ I64 e.1.2.1 ∧ I64 e.1.2.2.1 ∧ e.1.2.2.2.length ≤ 2000000 ∧ (∀ z ∈ e.2, I64 z) ∧ e.2.length ≤ 1000000
theorem flatMap_vint_len (l : List Int) : (l.flatMap fun i => vint (zz i)).length ≤ 10 * l.length := by
  induction l with
  | nil => simp
  | cons a l ih => rw [List.flatMap_cons, List.length_append, List.length_cons]; have := vint_len (zz a); omega
theorem take_succ_flatMap {α β : Type} [Inhabited α] (f : α → List β) {l : List α} {i : Nat} (h : i < l.length) : (l.take (i + 1)).flatMap f = (l.take i).flatMap f ++ f (l.getD i default) := by
  rw [List.take_add_one, List.getElem?_eq_getElem h, Option.toList_some, List.flatMap_append];simp [List.getD_eq_getElem?_getD, List.getElem?_eq_getElem h]
theorem wsliceN {l : List Int} (h : ∀ z ∈ l, I64 z) (hl : l.length ≤ 1000000) : wslice_Number l = some (itemsF l) := by
  unfold wslice_Number;rw [number_eq (by unfold I64; omega), Option.bind_some];unfold wslice_Number_l2;have h0 := vint_len (zz (l.length : Int));refine run_count (fun i => (vint (zz (l.length : Int)) ++ (l.take i).flatMap (fun i => vint (zz i)), ((i : Nat) : Int))) l.length (fun i hi => ?_) ?_ 0 (Nat.zero_le _) |> fun hh => by simpa using hh
  · unfold wslice_Number_bl2;dsimp only;have h1 := flatMap_vint_len (l.take i);have h2 := vint_len (zz (l.getD i default));rw [List.length_take] at h1;rw [if_pos (by omega), chk_pos (by omega), Int.toNat_natCast, number_eq (h _ (getD_mem hi)), Option.bind_some, chk_pos (by unfold Go.E.Cap; simp only [List.length_append]; omega), chk_pos (by unfold I64; omega), take_succ_flatMap _ hi, List.append_assoc]
    rfl
  · unfold wslice_Number_bl2 wslice_Number_k1;dsimp only;rw [if_neg (by omega), List.take_length]
    rfl
theorem flat_take_len {α : Type} : ∀ (L : List (List α)) (i : Nat), (L.take i).flatten.length ≤ L.flatten.length
  | [], i => by simp
  | x :: L, 0 => by simp
  | x :: L, i + 1 => by have := flat_take_len L i; simp only [List.take_succ_cons, List.flatten_cons, List.length_append]; omega
theorem take_succ_flatten {α : Type} {L : List (List α)} {i : Nat} (h : i < L.length) : (L.take (i + 1)).flatten = (L.take i).flatten ++ L.getD i default := by
  rw [List.take_add_one, List.getElem?_eq_getElem h, Option.toList_some, List.flatten_append];simp [List.getD_eq_getElem?_getD, List.getElem?_eq_getElem h]
theorem grow_eq {n : Int} (h : 0 ≤ n ∧ n ≤ 1000000000000) : slices_Grow_byte_byte [] n = some [] := by
  unfold slices_Grow_byte_byte slices_Grow_byte_byte_k1;rw [if_neg (by omega), chk_pos (by unfold I64; omega), chk_pos (by unfold I64; omega)]
  split
  · rw [chk_pos (by omega)]
  · rfl
theorem concat_eq {L : List (List UInt8)} (hL : L.length ≤ 1000) (ht : L.flatten.length ≤ 1000000000000) : slices_Concat_byte_byte L = some L.flatten := by
  have hx : ∀ i, i < L.length → (L.take i).flatten.length + (L.getD i default).length ≤ 1000000000000 := fun i hi => by
    have h1 := flat_take_len L (i + 1);rw [take_succ_flatten hi, List.length_append] at h1;omega
  have k1 : slices_Concat_byte_byte_k1 L (L.flatten.length : Int) = some L.flatten := by
    unfold slices_Concat_byte_byte_k1;rw [grow_eq (by omega), Option.bind_some];unfold slices_Concat_byte_byte_l4;refine run_count (fun i => ((L.take i).flatten, ((i : Nat) : Int))) L.length (fun i hi => ?_) ?_ 0 (Nat.zero_le _)
    · unfold slices_Concat_byte_byte_bl4;dsimp only;have := hx i hi;rw [if_pos (by omega), chk_pos (by omega), Int.toNat_natCast, chk_pos (by unfold Go.E.Cap; omega), chk_pos (by unfold I64; omega), take_succ_flatten hi]
      rfl
    · unfold slices_Concat_byte_byte_bl4 slices_Concat_byte_byte_k3;dsimp only;rw [if_neg (by omega), List.take_length]
  unfold slices_Concat_byte_byte slices_Concat_byte_byte_l2;refine run_count (fun i => (((L.take i).flatten.length : Int), ((i : Nat) : Int))) L.length (fun i hi => ?_) ?_ 0 (Nat.zero_le _)
  · unfold slices_Concat_byte_byte_bl2;dsimp only;have := hx i hi;rw [if_pos (by omega), chk_pos (by omega), Int.toNat_natCast, chk_pos (by unfold I64; omega), if_neg (by omega), chk_pos (by unfold I64; omega), take_succ_flatten hi, List.length_append]
    rfl
  · unfold slices_Concat_byte_byte_bl2;dsimp only;rw [if_neg (by omega), List.take_length, k1]
theorem lform_len {e : En} (h : EnS e) : (lform e).length ≤ 20000000 := by
  obtain ⟨h1, _, _, h4, _, h6⟩ := h;unfold lform chunkF itemsF;simp only [List.flatten_cons, List.flatten_nil, List.length_append, List.length_nil];have := flatMap_vint_len e.2;have := vint_len (zz (e.1.1.length : Int));have := vint_len (zz e.1.2.1);have := vint_len (zz e.1.2.2.1);have := vint_len (zz (e.1.2.2.2.length : Int));have := vint_len (zz (e.2.length : Int));omega
theorem chunk_eq {s : List UInt8} (h : s.length ≤ 2000000) : wire_Chunk s = some (chunkF s) := by
  unfold wire_Chunk chunkF;have := vint_len (zz (s.length : Int));rw [number_eq (by unfold I64; omega), Option.bind_some, chk_pos (by unfold Go.E.Cap; omega)]
theorem form_eq {e : En} (h : EnS e) : shapes_form e = some (lform e) := by
  have hl := lform_len h;obtain ⟨h1, h2, h3, h4, h5, h6⟩ := h;unfold shapes_form;rw [chk_pos (by omega), chunk_eq h1, Option.bind_some, number_eq h2, Option.bind_some, number_eq h3, Option.bind_some, chk_pos (by omega), chunk_eq h4, Option.bind_some, wsliceN h5 h6, Option.bind_some, concat_eq (by simp) (by unfold lform at hl; omega)]
  rfl
theorem flatMap_len_le {α β : Type} (f : α → List β) (B : Nat) : ∀ {l : List α}, (∀ x ∈ l, (f x).length ≤ B) → (l.flatMap f).length ≤ l.length * B
  | [], _ => by simp
  | x :: l, h => by
    rw [List.flatMap_cons, List.length_append, List.length_cons, Nat.add_mul];have := h x (.head _);have := flatMap_len_le f B fun y hy => h y (.tail _ hy);omega
theorem bytes_eq {n : Int} {es : List En} (hn : I64 n) (hl : es.length ≤ 1000000) (h : ∀ e ∈ es, EnS e) : shapes_Index_Bytes (n, es) = some (iform n es) := by
  have ht := flatMap_len_le lform 20000000 (l := es) fun x hx => lform_len (h x hx);have h0 := vint_len (zz (es.length : Int));have h1 := vint_len (zz n)
  have hw : wslice_form es = some (vint (zz (es.length : Int)) ++ es.flatMap lform) := by
    unfold wslice_form;rw [number_eq (by unfold I64; omega), Option.bind_some];unfold wslice_form_l2;refine run_count (fun i => (vint (zz (es.length : Int)) ++ (es.take i).flatMap lform, ((i : Nat) : Int))) es.length (fun i hi => ?_) ?_ 0 (Nat.zero_le _) |> fun hh => by simpa using hh
    · unfold wslice_form_bl2;dsimp only;have k1 := flatMap_len_le lform 20000000 (l := es.take i) fun x hx => lform_len (h x (List.mem_of_mem_take hx));rw [List.length_take] at k1;have k2 := lform_len (h _ (getD_mem hi));have k3 : min i es.length * 20000000 ≤ 1000000 * 20000000 := Nat.mul_le_mul_right _ (by omega);rw [if_pos (by omega), chk_pos (by omega), Int.toNat_natCast]
      show (shapes_form (es.getD i default)).bind _ = _
      rw [form_eq (h _ (getD_mem hi)), Option.bind_some, chk_pos (by unfold Go.E.Cap; simp only [List.length_append]; omega), chk_pos (by unfold I64; omega), take_succ_flatMap _ hi, List.append_assoc]
      rfl
    · unfold wslice_form_bl2 wslice_form_k1;dsimp only;rw [if_neg (by omega), List.take_length]
  unfold shapes_Index_Bytes;dsimp only;have k4 : es.length * 20000000 ≤ 1000000 * 20000000 := Nat.mul_le_mul_right _ hl;rw [number_eq hn, Option.bind_some, hw, Option.bind_some, chk_pos (by unfold Go.E.Cap; simp only [List.length_append]; omega)]
  rfl
/-! ### Valid entries -/
structure EV (n : Int) (e : En) : Prop where
  path : e.1.1.length ≤ 330 ∧ ¬ 0 ≤ wr false 0 (sl e.1.1)
  kind : 1 ≤ e.1.2.1 ∧ e.1.2.1 ≤ 4
  num : e.1.2.2.1 = 0 ∨ e.1.2.1 = 1
  text : e.1.2.2.2 = [] ∨ e.1.2.1 = 2
  ne : e.2 ≠ []
  items : ∀ z ∈ e.2, 0 ≤ z ∧ z < n
  inc : e.2.Pairwise (fun a b => a < b)
theorem inc_of {l : List Int} (h : ∀ j, 0 < j → j < l.length → l.getD (j - 1) default < l.getD j default) : l.Pairwise (fun a b => a < b) := by
  rw [List.pairwise_iff_getElem];intro i j hi hj hij
  have key : ∀ d, i + d + 1 < l.length → l.getD i default < l.getD (i + d + 1) default := by
    intro d
    induction d with
    | zero => intro hd; exact h (i + 1) (by omega) hd
    | succ d ih =>
      intro hd;have h1 := ih (by omega);have h2 := h (i + (d + 1) + 1) (by omega) hd;rw [show i + (d + 1) + 1 - 1 = i + d + 1 by omega] at h2;omega
  have := key (j - i - 1) (by omega);rw [show i + (j - i - 1) + 1 = j by omega] at this
  simpa [List.getD_eq_getElem?_getD, List.getElem?_eq_getElem hi, List.getElem?_eq_getElem hj] using this
theorem val_run {e : En} {n : Int} (hl : e.2.length ≤ 1000000) : ∀ (k i : Nat), i + k = e.2.length → ∃ c, Go.L.run (shapes_entry_valid_bl4 e n) (i : Int) = some c ∧
    (c = true ↔ ∀ j, i ≤ j → j < e.2.length → (0 ≤ e.2.getD j default ∧ e.2.getD j default < n) ∧ (0 < j → e.2.getD (j - 1) default < e.2.getD j default))
  | 0, i, hi => by
    refine ⟨true, run_inr (m := some true) ?_, by simp; intro j h1 h2; omega⟩;unfold shapes_entry_valid_bl4 shapes_entry_valid_k3;rw [if_neg (by omega)]
  | k + 1, i, hi => by
    have hil : i < e.2.length := by omega
    have hb : shapes_entry_valid_bl4 e n (i : Int) = if (0 ≤ e.2.getD i default ∧ e.2.getD i default < n) ∧ (0 < i → e.2.getD (i - 1) default < e.2.getD i default) then some (.inl ((i + 1 : Nat) : Int)) else some (.inr false) := by
      unfold shapes_entry_valid_bl4;have k1 : I64 ((i : Int) + 1) := by unfold I64; omega
      have k2 : I64 ((i : Int) - 1) := by unfold I64; omega
      simp only [chk_pos k1, chk_pos k2];rw [if_pos (by omega), chk_pos (by omega), Int.toNat_natCast, show ((i : Int) - 1).toNat = i - 1 by omega];generalize e.2.getD i default = z;generalize e.2.getD (i - 1) default = y
      by_cases c1 : z < 0 ∨ n ≤ z
      · rw [if_pos c1, if_neg (by omega)]; rfl
      · rw [if_neg c1]
        by_cases c2 : 0 < i
        · rw [if_pos (by omega), chk_pos (by omega)]
          by_cases c3 : z ≤ y
          · rw [if_pos c3, if_neg (by omega)]; rfl
          · rw [if_neg c3, if_pos (by omega)]; rfl
        · rw [if_neg (by omega), if_pos (by omega)]; rfl
    by_cases hc : (0 ≤ e.2.getD i default ∧ e.2.getD i default < n) ∧ (0 < i → e.2.getD (i - 1) default < e.2.getD i default)
    · rw [if_pos hc] at hb;obtain ⟨c, h1, h2⟩ := val_run hl k (i + 1) (by omega);refine ⟨c, by rw [run_inl hb, h1], h2.trans ⟨fun h j hj hj2 => ?_, fun h j hj hj2 => h j (by omega) hj2⟩⟩
      by_cases hji : j = i
      · subst hji; exact hc
      · exact h j (by omega) hj2
    · rw [if_neg hc] at hb;exact ⟨false, run_inr (m := some false) hb, by simp only [Bool.false_eq_true, false_iff]; exact fun h => hc (h i (Nat.le_refl _) hil)⟩
theorem valid_ex (e : En) (n : Int) (hl : e.2.length ≤ 1000000) : ∃ c, shapes_entry_valid e n = some c ∧ (c = true ↔ EV n e) := by
  obtain ⟨c, h1, h2⟩ := val_run (e := e) (n := n) hl e.2.length 0 (by omega)
  have hrun : ((e.1.1.length ≤ 330 ∧ ¬ 0 ≤ wr false 0 (sl e.1.1)) ∧ (1 ≤ e.1.2.1 ∧ e.1.2.1 ≤ 4) ∧ (e.1.2.2.1 = 0 ∨ e.1.2.1 = 1) ∧ (e.1.2.2.2 = [] ∨ e.1.2.1 = 2) ∧ e.2 ≠ []) → ∃ c, Go.L.run (shapes_entry_valid_bl4 e n) 0 = some c ∧ (c = true ↔ EV n e) := by
    rintro ⟨g1, g2, g3, g4, g5⟩;refine ⟨c, h1, h2.trans ⟨fun h => ⟨g1, g2, g3, g4, g5, fun z hz => ?_, inc_of fun j h0 hj => (h j (Nat.zero_le _) hj).2 h0⟩, fun h j _ hj => ⟨h.items _ (getD_mem hj), fun h0 => ?_⟩⟩⟩
    · obtain ⟨j, hj, rfl⟩ := List.getElem_of_mem hz;have := (h j (Nat.zero_le _) hj).1
      simpa [List.getD_eq_getElem?_getD, List.getElem?_eq_getElem hj] using this
    · have := List.pairwise_iff_getElem.1 h.inc (j - 1) j (by omega) hj (by omega)
      simpa [List.getD_eq_getElem?_getD, List.getElem?_eq_getElem hj, List.getElem?_eq_getElem (show j - 1 < e.2.length by omega)] using this
  have no : ¬ ((e.1.1.length ≤ 330 ∧ ¬ 0 ≤ wr false 0 (sl e.1.1)) ∧ (1 ≤ e.1.2.1 ∧ e.1.2.1 ≤ 4) ∧ (e.1.2.2.1 = 0 ∨ e.1.2.1 = 1) ∧ (e.1.2.2.2 = [] ∨ e.1.2.1 = 2) ∧ e.2 ≠ []) → ∃ c, (some false : Option Bool) = some c ∧ (c = true ↔ EV n e) := fun h => ⟨false, rfl, by simp only [Bool.false_eq_true, false_iff]; exact fun hv => h ⟨hv.path, hv.kind, hv.num, hv.text, hv.ne⟩⟩;have hne : (e.2.length : Int) = 0 ↔ e.2 = [] := by rw [← List.length_eq_zero_iff]; omega
  unfold shapes_entry_valid shapes_entry_valid_k2 shapes_entry_valid_k1 shapes_entry_valid_l4;rw [isPath_eq, Option.bind_some]
  by_cases g1 : e.1.1.length ≤ 330 ∧ ¬ 0 ≤ wr false 0 (sl e.1.1)
  · have d1 : (!decide (e.1.1.length ≤ 330 ∧ ¬ 0 ≤ wr false 0 (sl e.1.1))) = false := by simp [g1]
    rw [d1, if_neg (by decide)]
    by_cases g2 : e.1.2.1 < 1
    · rw [if_pos g2, if_pos g2]; exact no (fun h => by omega)
    · rw [if_neg g2]
      by_cases g3 : 4 < e.1.2.1
      · rw [if_pos g3, if_pos g3]; exact no (fun h => by omega)
      · rw [if_neg g3]
        by_cases g4 : e.1.2.2.1 = 0 <;> by_cases g5 : e.1.2.2.2 = [] <;> by_cases g6 : e.1.2.1 = 2 <;> by_cases g7 : e.1.2.1 = 1 <;> by_cases g8 : e.2 = [] <;>
          first
          | (exfalso; omega)
          | (simp only [g4, g5, g6, g7, hne, g8, if_true, if_false, Bool.false_eq_true, decide_true, decide_false, Bool.not_true, Bool.not_false]
             first
             | exact hrun ⟨g1, by omega, by omega, by first | exact .inl g5 | exact .inr g6, g8⟩
             | exact no fun h => by first | exact absurd h.2.2.1 (by omega) | exact h.2.2.2.1.elim g5 g6 | exact h.2.2.2.2 g8)
  · have d1 : (!decide (e.1.1.length ≤ 330 ∧ ¬ 0 ≤ wr false 0 (sl e.1.1))) = true := by simp only [decide_eq_false g1, Bool.not_false]
    rw [d1, if_pos rfl, if_pos rfl];exact no (fun h => g1 h.1)
end Go.Proofs.YtmfiaecglndldaaGreatDoor
end
section
namespace Go.L
/-- What m yields, m' yields. -/
def Ap {α : Type} (m m' : Option α) : Prop := ∀ r, m = some r → m' = some r
theorem apR {α : Type} (m : Option α) : Ap m m := fun _ h => h
theorem apB {α β : Type} {m m' : Option α} {f f' : α → Option β} (h : Ap m m') (k : ∀ x, Ap (f x) (f' x)) : Ap (Option.bind m f) (Option.bind m' f') := fun r e => by
  obtain ⟨x, h1, h2⟩ := bind_some e;rw [h x h1, Option.bind_some];exact k x r h2
theorem apC {α : Type} {p : Prop} [Decidable p] {m m' : Option α} (h : Ap m m') : Ap (Go.L.chk p m) (Go.L.chk p m') := fun r e => by
  obtain ⟨h1, h2⟩ := chk_some e;rw [chk_pos h1];exact h r h2
theorem apI {α : Type} {p : Prop} [Decidable p] {a b a' b' : Option α} (h : Ap a a') (k : Ap b b') : Ap (if p then a else b) (if p then a' else b') := fun r e => by
  by_cases hp : p
  · rw [if_pos hp] at e ⊢; exact h r e
  · rw [if_neg hp] at e ⊢; exact k r e
theorem apM {α β : Type} {f : α → β} {m m' : Option α} (h : Ap m m') : Ap (Option.map f m) (Option.map f m') := fun r e => by
  cases m with
  | none => cases e
  | some x => rw [h x rfl]; exact e
theorem apO {α β : Type} {x : Option α} {ex ex' : Option β} {k k' : α → Option β} (h : Ap ex ex') (hk : ∀ y, Ap (k y) (k' y)) : Ap (Go.L.onX x ex k) (Go.L.onX x ex' k') := by
  cases x with
  | none => exact h
  | some y => exact hk y
theorem Ap.itr {σ ρ : Type} {b b' : σ → Option (σ ⊕ ρ)} (h : ∀ s, Ap (b s) (b' s)) : ∀ (n : Nat) (s : σ), Ap (itr b n s) (itr b' n s)
  | 0, _ => fun _ e => by cases e
  | n + 1, s => fun r e => by
    obtain ⟨m, x, hm, h1, h2⟩ := itr_some e;obtain rfl : n = m := by omega
    rw [Go.L.itr, h s x h1]
    cases x with
    | inl s' => exact Ap.itr h n s' r h2
    | inr y => exact congrArg some h2
theorem Ap.run {σ ρ : Type} {b b' : σ → Option (σ ⊕ ρ)} (h : ∀ s, Ap (b s) (b' s)) (n : Nat) (s : σ) : Ap (Go.L.itr b n s) (Go.L.run b' s) := fun r e => run_of (Ap.itr h n s r e)
/-- A computation with its loops cut off. -/
class Mi {α : Type} (m : Option α) where
  c : Option α
  h : Ap c m
noncomputable instance {α : Type} (x : α) : Mi (some x) := ⟨some x, apR _⟩
noncomputable instance {α : Type} : Mi (none : Option α) := ⟨none, apR _⟩
noncomputable instance iB {α β : Type} (m : Option α) (f : α → Option β) [i : Mi m] [j : ∀ x, Mi (f x)] : Mi (Option.bind m f) := ⟨Option.bind i.c fun x => (j x).c, apB i.h fun x => (j x).h⟩
noncomputable instance iC {α : Type} (p : Prop) [Decidable p] (m : Option α) [i : Mi m] : Mi (Go.L.chk p m) := ⟨Go.L.chk p i.c, apC i.h⟩
noncomputable instance iI {α : Type} (p : Prop) [Decidable p] (a b : Option α) [i : Mi a] [j : Mi b] : Mi (if p then a else b) := ⟨if p then i.c else j.c, apI i.h j.h⟩
noncomputable instance {α β : Type} (f : α → β) (m : Option α) [i : Mi m] : Mi (Option.map f m) := ⟨Option.map f i.c, apM i.h⟩
noncomputable instance {α β : Type} (x : Option α) (ex : Option β) (k : α → Option β) [i : Mi ex] [j : ∀ y, Mi (k y)] : Mi (Go.L.onX x ex k) := ⟨Go.L.onX x i.c fun y => (j y).c, apO i.h fun y => (j y).h⟩
noncomputable instance {σ ρ : Type} (b : σ → Option (σ ⊕ ρ)) (s : σ) [i : ∀ s, Mi (b s)] : Mi (Go.L.run b s) := ⟨Go.L.itr (fun s => (i s).c) 200 s, Ap.run (fun s => (i s).h) 200 s⟩
end Go.L
namespace Go.L
/-! ### Sorting by insertion -/
def insB {α : Type} (le : α → α → Bool) (a : α) : List α → List α
  | [] => [a]
  | b :: l => if le a b then a :: b :: l else b :: insB le a l
def isB {α : Type} (le : α → α → Bool) : List α → List α
  | [] => []
  | a :: l => insB le a (isB le l)
section
variable {α : Type} {le : α → α → Bool}
theorem insB_perm (a : α) : ∀ l : List α, (insB le a l).Perm (a :: l)
  | [] => .refl _
  | b :: l => by
    unfold insB
    split
    · exact .refl _
    · exact ((insB_perm a l).cons b).trans (.swap a b l)
theorem isB_perm : ∀ l : List α, (isB le l).Perm l
  | [] => .refl _
  | a :: l => (insB_perm a _).trans ((isB_perm l).cons a)
theorem insB_sorted (htr : ∀ a b c, le a b = true → le b c = true → le a c = true) (hto : ∀ a b, le a b = true ∨ le b a = true) (a : α) : ∀ l : List α, l.Pairwise (fun x y => le x y = true) → (insB le a l).Pairwise fun x y => le x y = true
  | [], _ => List.pairwise_singleton _ _
  | b :: l, h => by
    unfold insB
    split
    · rename_i h1;refine .cons (fun x hx => ?_) h
      rcases List.mem_cons.1 hx with rfl | hx
      · exact h1
      · exact htr _ _ _ h1 ((List.pairwise_cons.1 h).1 x hx)
    · rename_i h1;have h2 : le b a = true := by rcases hto a b with h | h; exact absurd h h1; exact h
      refine .cons (fun x hx => ?_) (insB_sorted htr hto a l (List.pairwise_cons.1 h).2)
      rcases List.mem_cons.1 ((insB_perm a l).mem_iff.1 hx) with rfl | hx
      · exact h2
      · exact (List.pairwise_cons.1 h).1 x hx
theorem isB_sorted (htr : ∀ a b c, le a b = true → le b c = true → le a c = true) (hto : ∀ a b, le a b = true ∨ le b a = true) : ∀ l : List α, (isB le l).Pairwise fun x y => le x y = true
  | [] => .nil
  | a :: l => insB_sorted htr hto a _ (isB_sorted htr hto l)
theorem sorted_eq (has : ∀ a b, le a b = true → le b a = true → a = b) : ∀ {l m : List α}, l.Perm m → l.Pairwise (fun x y => le x y = true) → m.Pairwise (fun x y => le x y = true) → l = m
  | [], m, hp, _, _ => hp.nil_eq
  | a :: l, m, hp, hl, hm => by
    cases m with
    | nil => exact absurd hp.symm.nil_eq (by simp)
    | cons b m =>
      obtain ⟨l1, l2⟩ := List.pairwise_cons.1 hl;obtain ⟨m1, m2⟩ := List.pairwise_cons.1 hm
      have hab : a = b := by
        rcases List.mem_cons.1 (hp.mem_iff.1 (.head _)) with h1 | h1
        · exact h1
        · rcases List.mem_cons.1 (hp.mem_iff.2 (.head _)) with h2 | h2
          · exact h2.symm
          · exact has a b (l1 b h2) (m1 a h1)
      subst hab;rw [sorted_eq has hp.cons_inv l2 m2]
theorem isB_eq (htr : ∀ a b c, le a b = true → le b c = true → le a c = true) (hto : ∀ a b, le a b = true ∨ le b a = true) (has : ∀ a b, le a b = true → le b a = true → a = b) (l : List α) : isB le l = l.mergeSort le :=
  sorted_eq has ((isB_perm l).trans (List.mergeSort_perm l _).symm) (isB_sorted htr hto l) (List.pairwise_mergeSort htr (fun a b => by simpa using hto a b) l)
end
def isS (l : List (List UInt8)) : List (List UInt8) := isB (fun x y => decide (x ≤ y)) l
def isI (l : List Int) : List Int := isB (fun x y => decide (x ≤ y)) l
def isL (l : List Lf) : List Lf := isB (fun x y => !(Go.Proofs.ltOf lfCmp) y x) l
theorem isI_eq (l : List Int) : isI l = Go.E.srtI l := isB_eq (fun a b c h1 h2 => by simp only [decide_eq_true_eq] at *; omega) (fun a b => by simp only [decide_eq_true_eq]; omega) (fun a b h1 h2 => by simp only [decide_eq_true_eq] at *; omega) l
theorem isS_eq (l : List (List UInt8)) : isS l = Go.E.srtS l := isB_eq (fun a b c h1 h2 => by simp only [decide_eq_true_eq] at *; exact List.le_trans h1 h2) (fun a b => by simp only [decide_eq_true_eq]; exact List.le_total a b) (fun a b h1 h2 => by simp only [decide_eq_true_eq] at *; exact List.le_antisymm h1 h2) l
theorem isL_eq (l : List Lf) : isL l = srtL l := by
  have hlt : ∀ a b, (!(Go.Proofs.ltOf lfCmp) b a) = true ↔ ¬ lfCmp b a < 0 := fun a b => by simp [Go.Proofs.ltOf]
  refine isB_eq (fun a b c h1 h2 => ?_) (fun a b => ?_) (fun a b h1 h2 => ?_) l
  · rw [hlt] at *;intro h3;have s1 := ordLf.swap a b
    rcases Int.lt_trichotomy (lfCmp a b) 0 with h4 | h4 | h4
    · exact h2 (ordLf.trans c a b h3 h4)
    · rw [ordLf.zero a b h4] at h3; exact h2 h3
    · omega
  · rw [hlt, hlt];have s1 := ordLf.swap a b;omega
  · exact ordLf.parts a b (by simpa using h2) (by simpa using h1)
end Go.L
namespace Go.Proofs.YtmfiaecglndldaaGreatDoor
open Go Go.E Go.L
noncomputable def sortedKi (l : List (Lf × List Int)) : Option (List Lf) := Go.L.chk (Go.E.Cap 48 l.length) (some (isL (l.map Prod.fst)))
theorem sortedKi_eq (l : List (Lf × List Int)) : sortedKi l = sortedK l := by unfold sortedKi sortedK; rw [isL_eq]
noncomputable instance (l : List (Lf × List Int)) : Mi (sortedK l) := ⟨sortedKi l, by rw [sortedKi_eq]; exact apR _⟩
end Go.Proofs.YtmfiaecglndldaaGreatDoor
end
section
namespace Go.L
section
variable {α : Type} {le : α → α → Prop}
theorem compactUpTo_spec [Inhabited α] [DecidableEq α] (hre : ∀ a, le a a) (htr : ∀ a b c, le a b → le b c → le a c) (has : ∀ a b, le a b → le b a → a = b) (d : Array α) (hs : ∀ i j, i < j → j < d.size → le d[i]! d[j]!) : ∀ m, m ≤ d.size →
    (Lib.compactUpTo d m).Pairwise (fun a b => le a b ∧ a ≠ b) ∧ (∀ x, x ∈ Lib.compactUpTo d m ↔ ∃ j, j < m ∧ x = d[j]!)
  | 0, _ => ⟨by simp [Lib.compactUpTo], fun x => by simp [Lib.compactUpTo]⟩
  | m + 1, hm => by
    obtain ⟨h1, h2⟩ := compactUpTo_spec hre htr has d hs m (by omega);rw [Lib.compactUpTo_succ]
    by_cases hk : Lib.keeps d m = true
    · rw [if_pos hk];refine ⟨List.pairwise_append.2 ⟨h1, List.pairwise_singleton _ _, fun a ha b hb => ?_⟩, fun x => ?_⟩
      · rw [List.mem_singleton] at hb;subst hb;obtain ⟨j, hj, rfl⟩ := (h2 a).1 ha;refine ⟨hs j m hj (by omega), fun e => ?_⟩;unfold Lib.keeps at hk;rw [decide_eq_true_eq] at hk
        rcases hk with hk | hk
        · omega
        · refine hk (has _ _ ?_ ?_)
          · by_cases hjm : j = m - 1
            · rw [← e, hjm]; exact hre _
            · rw [← e]; exact hs j (m - 1) (by omega) (by omega)
          · exact hs (m - 1) m (by omega) (by omega)
      · rw [List.mem_append, h2, List.mem_singleton]
        constructor
        · rintro (⟨j, hj, rfl⟩ | rfl)
          · exact ⟨j, by omega, rfl⟩
          · exact ⟨m, by omega, rfl⟩
        · rintro ⟨j, hj, rfl⟩
          by_cases hjm : j = m
          · subst hjm; exact .inr rfl
          · exact .inl ⟨j, by omega, rfl⟩
    · have hk' : ¬ (m = 0 ∨ d[m]! ≠ d[m - 1]!) := by
        unfold Lib.keeps at hk
        simpa using hk
      rw [if_neg hk, List.append_nil];refine ⟨h1, fun x => (h2 x).trans ?_⟩
      constructor
      · rintro ⟨j, hj, rfl⟩; exact ⟨j, by omega, rfl⟩
      · rintro ⟨j, hj, rfl⟩
        by_cases hjm : j = m
        · subst hjm;have e : d[j]! = d[j - 1]! := Decidable.not_not.1 fun h => hk' (.inr h);have h0 : j ≠ 0 := fun h => hk' (.inl h);exact ⟨j - 1, by omega, e⟩
        · exact ⟨j, by omega, rfl⟩
theorem compact_spec [Inhabited α] [DecidableEq α] (hre : ∀ a, le a a) (htr : ∀ a b c, le a b → le b c → le a c) (has : ∀ a b, le a b → le b a → a = b) {l : List α} (hs : l.Pairwise le) : (Lib.compact l).Pairwise (fun a b => le a b ∧ a ≠ b) ∧ ∀ x, x ∈ Lib.compact l ↔ x ∈ l := by
  have hget : ∀ i, i < l.length → l.toArray[i]! = l.getD i default := fun i hi => by simp [hi]
  have := compactUpTo_spec hre htr has l.toArray (fun i j hij hj => by
    have hj' : j < l.length := by simpa using hj
    have hi' : i < l.length := by omega
    have := List.pairwise_iff_getElem.1 hs i j hi' hj' hij
    simpa [hi', hj'] using this) l.length (by simp)
  refine ⟨this.1, fun x => (this.2 x).trans ?_⟩
  constructor
  · rintro ⟨j, hj, rfl⟩;simp [hj]
  · intro hx;obtain ⟨j, hj, rfl⟩ := List.getElem_of_mem hx;exact ⟨j, hj, by simp [hj]⟩
end
theorem srtI_perm (l : List Int) : (Go.E.srtI l).Perm l := List.mergeSort_perm l _
theorem srtI_sorted (l : List Int) : (Go.E.srtI l).Pairwise (fun x y => x ≤ y) := by
  have := List.pairwise_mergeSort (le := fun x y : Int => decide (x ≤ y)) (fun a b c h1 h2 => by simp only [decide_eq_true_eq] at *; omega) (fun a b => by simpa using Int.le_total a b) l;exact this.imp fun h => by simpa using h
def setI (l : List Int) : List Int := Lib.compact (Go.E.srtI l)
theorem setI_spec (l : List Int) : (setI l).Pairwise (fun a b => a ≤ b ∧ a ≠ b) ∧ ∀ x, x ∈ setI l ↔ x ∈ l := by
  have := compact_spec (le := fun a b : Int => a ≤ b) Int.le_refl (fun _ _ _ => Int.le_trans) (fun _ _ => Int.le_antisymm) (srtI_sorted l);exact ⟨this.1, fun x => (this.2 x).trans (srtI_perm l).mem_iff⟩
end Go.L
end
section
namespace Go.L
theorem adj_pairwise {α : Type} [Inhabited α] {R : α → α → Prop} (htr : ∀ a b c, R a b → R b c → R a c) {l : List α} (h : ∀ j, 0 < j → j < l.length → R (l.getD (j - 1) default) (l.getD j default)) : l.Pairwise R := by
  rw [List.pairwise_iff_getElem];intro i j hi hj hij
  have key : ∀ d, i + d + 1 < l.length → R (l.getD i default) (l.getD (i + d + 1) default) := by
    intro d
    induction d with
    | zero => intro hd; exact h (i + 1) (by omega) hd
    | succ d ih =>
      intro hd;have h1 := ih (by omega);have h2 := h (i + (d + 1) + 1) (by omega) hd;rw [show i + (d + 1) + 1 - 1 = i + d + 1 by omega] at h2;exact htr _ _ _ h1 h2
  have := key (j - i - 1) (by omega);rw [show i + (j - i - 1) + 1 = j by omega] at this
  simpa [List.getD_eq_getElem?_getD, List.getElem?_eq_getElem hi, List.getElem?_eq_getElem hj] using this
section
variable {κ β : Type} [DecidableEq κ]
end
/-- An item of a leaf. -/
def addI (k : Lf) (i : Int) (M : List (Lf × List Int)) : List (Lf × List Int) := mput k (mget [] k M ++ [i]) M
def addL (k : Lf) (d : Int) (M : List (Lf × List Int)) (l : List Int) : List (Lf × List Int) := l.foldl (fun M z => addI k (z + d) M) M
end Go.L
namespace Go.Proofs.YtmfiaecglndldaaGreatDoor
open Go Go.L
/-- A good index. -/
structure GI (n : Int) (es : List En) : Prop where
  n0 : 0 ≤ n
  n64 : n ≤ 64
  ev : ∀ e ∈ es, EV n e
  sz : ∀ e ∈ es, EnS e
  len : es.length ≤ 1000000
  inc : es.Pairwise (fun a b => lfCmp a.1 b.1 < 0)
theorem open_run {b : List UInt8} {n : Int} {es : List En} {x14 : Int × Int × (Int × Int)} {x39 : List En × Int × (Int × Int)} (h14 : x14.1 = n) (h39 : x39.1 = es) (hn : 0 ≤ n ∧ n ≤ 64) (hl : es.length ≤ 1000000) (hs : ∀ e ∈ es, EnS e) :
    ∀ (k i : Nat), i + k = es.length → (∀ j, j < i → EV n (es.getD j default) ∧ (0 < j → lfCmp (es.getD (j - 1) default).1 (es.getD j default).1 < 0)) →
      ∃ r, Go.L.run (shapes_Open_bl4 b (16, -1) x14 x39) (i : Int) = some r ∧ (r = ((0, []), (16, -1)) ∨ (r = ((n, es), (0, 0)) ∧ GI n es ∧ iform n es = b)) := by
  subst h14; subst h39;intro k
  induction k with
  | zero =>
    intro i hi hp
    have hG : GI x14.1 x39.1 := by
      refine ⟨hn.1, hn.2, fun e he => ?_, hs, hl, adj_pairwise (l := x39.1) (R := fun a b : En => lfCmp a.1 b.1 < 0) (fun a b c h1 h2 => ordLf.trans _ _ _ h1 h2) (fun j h0 hj => (hp j (by omega)).2 h0)⟩;obtain ⟨j, hj, rfl⟩ := List.getElem_of_mem he;have := (hp j (by omega)).1
      simpa [List.getD_eq_getElem?_getD, List.getElem?_eq_getElem hj] using this
    have e : shapes_Open_bl4 b (16, -1) x14 x39 (i : Int) = (shapes_Open_k3 b (16, -1) x14 x39).map Sum.inr := by
      unfold shapes_Open_bl4;rw [if_neg (by omega)]
    rw [run_inr e];unfold shapes_Open_k3 shapes_Open_k7 bytes_Equal;rw [bytes_eq (by unfold I64; omega) hl hs, Option.bind_some, Option.bind_some]
    by_cases hb : iform x14.1 x39.1 = b
    · rw [if_neg (by simp [hb])];exact ⟨_, rfl, .inr ⟨rfl, hG, hb⟩⟩
    · rw [if_pos (by simp [hb])];exact ⟨_, rfl, .inl rfl⟩
  | succ k ih =>
    intro i hi hp;have hil : i < x39.1.length := by omega
    obtain ⟨c, hv, hc⟩ := valid_ex (x39.1.getD i default) x14.1 (hs _ (getD_mem hil)).2.2.2.2.2;have e0 : ∀ x : En, shapes_entry_valid ((x.1.1, x.1.2.1, x.1.2.2.1, x.1.2.2.2), x.2) = shapes_entry_valid x := fun _ => rfl
    have hb : shapes_Open_bl4 b (16, -1) x14 x39 (i : Int) = if c = true ∧ (0 < i → lfCmp (x39.1.getD (i - 1) default).1 (x39.1.getD i default).1 < 0) then some (.inl ((i + 1 : Nat) : Int)) else some (.inr ((0, []), (16, -1))) := by
      unfold shapes_Open_bl4 shapes_Open_k5 shapes_Open_k6;rw [if_pos (by omega), chk_pos (by omega), Int.toNat_natCast, e0, hv, Option.bind_some]
      cases c with
      | false => rw [if_pos (show (!false) = true from rfl), if_neg (by simp)]; rfl
      | true =>
        rw [if_neg (by decide)]
        by_cases h0 : 0 < i
        · rw [if_pos (by omega), chk_pos (by unfold I64; omega), chk_pos (by omega), show ((i : Int) - 1).toNat = i - 1 by omega]
          show (shapes_leaf_compare (x39.1.getD i default).1 (x39.1.getD (i - 1) default).1).bind _ = _
          rw [compare_eq, Option.bind_some];have hsw := ordLf.swap (x39.1.getD i default).1 (x39.1.getD (i - 1) default).1
          by_cases h1 : lfCmp (x39.1.getD i default).1 (x39.1.getD (i - 1) default).1 ≤ 0
          · rw [if_pos h1, if_neg (fun hh => by have := hh.2 h0; omega)]; rfl
          · rw [if_neg h1, if_pos ⟨rfl, fun _ => by omega⟩, chk_pos (by unfold I64; omega)]; rfl
        · rw [if_neg (by omega), if_pos ⟨rfl, fun h => absurd h h0⟩, chk_pos (by unfold I64; omega)]; rfl
    by_cases hg : c = true ∧ (0 < i → lfCmp (x39.1.getD (i - 1) default).1 (x39.1.getD i default).1 < 0)
    · rw [if_pos hg] at hb;rw [run_inl hb];refine ih (i + 1) (by omega) fun j hj => ?_
      by_cases hji : j = i
      · subst hji; exact ⟨hc.1 hg.1, hg.2⟩
      · exact hp j (by omega)
    · rw [if_neg hg] at hb;exact ⟨_, run_inr (m := some ((0, []), (16, -1))) hb, .inl rfl⟩
theorem open_ex (b : List UInt8) : ∃ r, shapes_Open b = some r ∧ ((r = ((0, []), (3, -1)) ∧ 16384 < b.length) ∨ (r = ((0, []), (16, -1)) ∧ b.length ≤ 16384) ∨ ∃ n es, r = ((n, es), (0, 0)) ∧ b.length ≤ 16384 ∧ GI n es ∧ iform n es = b) := by
  unfold shapes_Open shapes_fault
  by_cases h : 16384 < b.length
  · rw [if_pos (by omega)];exact ⟨_, rfl, .inl ⟨rfl, h⟩⟩
  · rw [if_neg (by omega), Option.bind_some];obtain ⟨⟨n, nx, f⟩, h1, h2⟩ := rnum (b := b) (by omega) (a := 0) (Nat.zero_le _);have h1' : wire_ReadNumber b 0 = some (n, nx, f) := h1;rw [h1', Option.bind_some];unfold shapes_Open_k1 shapes_Open_k2 shapes_Open_l4
    rcases h2 with ⟨hf, hn, m, hm, h3, h4⟩ | hf
    · simp only at hf hn hm;subst hf; subst hm;dsimp only
      by_cases c1 : n < 0 ∨ 64 < n
      · rw [if_pos (by rcases c1 with c | c <;> simp [c])];exact ⟨_, rfl, .inr (.inl ⟨rfl, by omega⟩)⟩
      · rw [if_neg (by have : ¬ n < 0 := by omega
                       have h64 : ¬ 64 < n := by omega
                       simp [this, h64])]
        obtain ⟨⟨es, nx2, f2⟩, k1, k2⟩ := rentries (b := b) (by omega) h4 (most := (b.length : Int)) (by omega);rw [k1, Option.bind_some]
        rcases k2 with ⟨hf, ⟨he, hel⟩, _⟩ | hf
        · simp only at hf he hel;subst hf;dsimp only;rw [if_pos ⟨rfl, rfl⟩];have hel' : es.length ≤ b.length := by have : (es.length : Int) ≤ (b.length : Int) := hel; omega
          obtain ⟨r, g1, g2⟩ := open_run (b := b) (n := n) (es := es) (x14 := (n, (m : Int), (0, 0))) (x39 := (es, nx2, (0, 0))) rfl rfl (by omega) (by omega) (fun e hee => by
            obtain ⟨q1, q2, q3, q4, q5, q6⟩ := he e hee;exact ⟨by omega, q2, q3, by omega, q5, by omega⟩) es.length 0 (by omega) (fun j hj => absurd hj (Nat.not_lt_zero j))
          refine ⟨r, g1, ?_⟩
          rcases g2 with g | ⟨g, gg, ggg⟩
          · exact .inr (.inl ⟨g, by omega⟩)
          · exact .inr (.inr ⟨n, es, g, by omega, gg, ggg⟩)
        · dsimp only;rw [if_neg (fun h => hf h.1)];exact ⟨_, rfl, .inr (.inl ⟨rfl, by omega⟩)⟩
    · dsimp only;have hf' : f.1 ≠ 0 := hf;rw [if_pos (by simp [hf'])];exact ⟨_, rfl, .inr (.inl ⟨rfl, by omega⟩)⟩
/-! ### build -/
/-! ### Merge -/
def addE (d : Int) (M : List (Lf × List Int)) (e : En) : List (Lf × List Int) := addL e.1 d M e.2
/-- What two indexes have found. -/
def both (n1 : Int) (es1 es2 : List En) : List (Lf × List Int) := es2.foldl (addE n1) (es1.foldl (addE 0) [])
end Go.Proofs.YtmfiaecglndldaaGreatDoor
end
section
namespace Go.L
theorem nu_add {u g i : Nat} {c : UInt8} (hc : (c &&& 127).toNat = g) (hu : u < 2 ^ (7 * i)) (hs : u + g * 2 ^ (7 * i) < 18446744073709551616) : nu u i c = u + g * 2 ^ (7 * i) := by
  unfold nu;rw [hc, Nat.mod_eq_of_lt (by omega), Nat.or_comm, Nat.mul_comm, ← Nat.two_pow_add_eq_or_of_lt hu, Nat.add_comm, Nat.mul_comm]
set_option maxRecDepth 20000 in
theorem and127 {v : Nat} : (UInt8.ofNat (v % 128 + 128) &&& 127).toNat = v % 128 := by
  have h : ∀ b : Fin 128, (UInt8.ofNat (b.val + 128) &&& 127).toNat = b.val := by decide
  exact h ⟨v % 128, Nat.mod_lt _ (by decide)⟩
set_option maxRecDepth 20000 in
theorem and127s {v : Nat} (hv : v < 128) : (UInt8.ofNat v &&& 127).toNat = v := by
  have h : ∀ b : Fin 128, (UInt8.ofNat b.val &&& 127).toNat = b.val := by decide
  exact h ⟨v, hv⟩
theorem getD_mid {α : Type} [Inhabited α] (A B : List α) (x : α) : (A ++ x :: B).getD A.length default = x := by
  rw [List.getD_eq_getElem?_getD, List.getElem?_append_right (Nat.le_refl _), Nat.sub_self]; rfl
end Go.L
namespace Go.Proofs.YtmfiaecglndldaaGreatDoor
open Go Go.L
theorem rn_at {A C : List UInt8} (u : Nat) (hu : u < 2 ^ 64) : ∀ (k i v acc : Nat) (P : List UInt8), i + k = 10 → P.length = i → u = acc + v * 2 ^ (7 * i) → acc < 2 ^ (7 * i) → (i = 0 ∨ 1 ≤ v) → v < 128 ^ k → (A ++ P ++ vintN k v ++ C).length ≤ 1000000 →
    Go.L.run (wire_ReadNumber_bl2 (A ++ P ++ vintN k v ++ C) (A.length : Int)) ((acc : Int), (i : Int)) = some (unzz u, ((A.length + i + (vintN k v).length : Nat) : Int), (0, 0))
  | 0, i, v, acc, P, hi, hP, hacc, ha, hv0, hv, _ => by
    simp at hv;subst hv;omega
  | k + 1, i, v, acc, P, hi, hP, hacc, ha, hv0, hv, hlen => by
    have hpw : 0 < 2 ^ (7 * i) := Nat.pow_pos (by decide);have hpw2 : 2 ^ (7 * (i + 1)) = 2 ^ (7 * i) * 128 := by rw [Nat.mul_add, Nat.pow_add]
    have hcat : A ++ P ++ vintN (k + 1) v ++ C = (A ++ P) ++ (vintN (k + 1) v ++ C) := by rw [List.append_assoc]
    by_cases hc : 128 ≤ v
    · have hf : vintN (k + 1) v = UInt8.ofNat (v % 128 + 128) :: vintN k (v / 128) := by rw [vintN, if_pos hc]
      have hk : 1 ≤ k := by
        rcases Nat.eq_zero_or_pos k with h0 | h0
        · subst h0; simp at hv; omega
        · exact h0
      have hget : (A ++ P ++ vintN (k + 1) v ++ C).getD (A.length + i) default = UInt8.ofNat (v % 128 + 128) := by
        rw [hcat, hf, List.cons_append];have := getD_mid (A ++ P) (vintN k (v / 128) ++ C) (UInt8.ofNat (v % 128 + 128))
        rwa [List.length_append, hP] at this
      have hbl : A.length + i < (A ++ P ++ vintN (k + 1) v ++ C).length := by
        rw [hcat, hf]; simp only [List.length_append, List.length_cons]; omega
      have hnat : (UInt8.ofNat (v % 128 + 128)).toNat = v % 128 + 128 := by simp; omega
      have hsum : acc + (v % 128) * 2 ^ (7 * i) < 18446744073709551616 := by
        have h1 : v % 128 * 2 ^ (7 * i) ≤ v * 2 ^ (7 * i) := Nat.mul_le_mul_right _ (Nat.mod_le _ _);omega
      have hstep := rn_step hlen (a := A.length) (u := acc) (i := i) (by omega) (by
        have : acc ≤ u := by omega
        omega) hbl
      rw [hget, hnat, nu_add and127 ha hsum, if_neg (by omega), if_neg (by omega)] at hstep;rw [run_inl hstep];have h128 : v = v % 128 + 128 * (v / 128) := (Nat.mod_add_div v 128).symm
      have hmul : v * 2 ^ (7 * i) = v % 128 * 2 ^ (7 * i) + v / 128 * (2 ^ (7 * i) * 128) := by
        conv => lhs; rw [h128]
        rw [Nat.add_mul]
        congr 1
        rw [Nat.mul_comm 128, Nat.mul_assoc, Nat.mul_comm 128]
      have hacc2 : acc + v % 128 * 2 ^ (7 * i) < 2 ^ (7 * (i + 1)) := by
        rw [hpw2];have : v % 128 * 2 ^ (7 * i) ≤ 127 * 2 ^ (7 * i) := Nat.mul_le_mul_right _ (by omega);omega
      have ih := rn_at (A := A) (C := C) u hu k (i + 1) (v / 128) (acc + v % 128 * 2 ^ (7 * i)) (P ++ [UInt8.ofNat (v % 128 + 128)]) (by omega) (by rw [List.length_append, hP]; rfl) (by rw [hpw2, hacc, hmul]; omega) hacc2 (.inr (by omega)) (Nat.div_lt_of_lt_mul (by rw [Nat.pow_succ, Nat.mul_comm] at hv; exact hv)) (by rw [hf] at hlen; simpa using hlen);have e : A ++ (P ++ [UInt8.ofNat (v % 128 + 128)]) ++ vintN k (v / 128) ++ C = A ++ P ++ vintN (k + 1) v ++ C := by rw [hf]; simp
      rw [e] at ih;rw [ih, hf]
      congr 3
      simp only [List.length_cons];omega
    · have hf : vintN (k + 1) v = [UInt8.ofNat v] := by rw [vintN, if_neg hc]
      have hget : (A ++ P ++ vintN (k + 1) v ++ C).getD (A.length + i) default = UInt8.ofNat v := by
        rw [hcat, hf, List.singleton_append];have := getD_mid (A ++ P) C (UInt8.ofNat v)
        rwa [List.length_append, hP] at this
      have hbl : A.length + i < (A ++ P ++ vintN (k + 1) v ++ C).length := by
        rw [hcat, hf]; simp only [List.length_append, List.length_cons, List.length_nil]; omega
      have hnat : (UInt8.ofNat v).toNat = v := by simp; omega
      have h9 : i = 9 → v ≤ 1 := fun h => by
        subst h;have : v * 2 ^ 63 ≤ u := by omega
        omega
      have hstep := rn_step hlen (a := A.length) (u := acc) (i := i) (by omega) (by omega) hbl;rw [hget, hnat, nu_add (and127s (by omega)) ha (by omega), if_neg (by omega), if_pos (by omega), ← hacc] at hstep;rw [run_inr (m := some (unzz u, ((A.length + i + 1 : Nat) : Int), (0, 0))) hstep, hf]
      rfl
theorem rnum_at {A C : List UInt8} {a : Int} (h : I64 a) (hl : (A ++ (vint (zz a) ++ C)).length ≤ 1000000) : wire_ReadNumber (A ++ (vint (zz a) ++ C)) (A.length : Int) = some (a, ((A.length + (vint (zz a)).length : Nat) : Int), (0, 0)) := by
  unfold wire_ReadNumber;rw [if_neg (by omega), if_neg (by simp only [List.length_append]; omega)];have := rn_at (A := A) (C := C) (zz a) (zz_lt h) 10 0 (zz a) 0 [] (by omega) rfl (by simp) (by simp) (.inl rfl) (Nat.lt_trans (zz_lt h) (by decide)) (by simpa [vint] using hl);rw [unzz_zz] at this;have e : A ++ (vint (zz a) ++ C) = A ++ [] ++ vintN 10 (zz a) ++ C := by simp [vint]
  rw [e];exact this
theorem rchunk_at {A C s : List UInt8} (hs : s.length ≤ 1000000) (hl : (A ++ (chunkF s ++ C)).length ≤ 1000000) : wire_ReadChunk (A ++ (chunkF s ++ C)) (A.length : Int) = some (s, ((A.length + (chunkF s).length : Nat) : Int), (0, 0)) := by
  unfold wire_ReadChunk;have e : A ++ (chunkF s ++ C) = A ++ (vint (zz (s.length : Int)) ++ (s ++ C)) := by unfold chunkF; simp
  rw [e] at hl ⊢;rw [rnum_at (by unfold I64; omega) hl, Option.bind_some];dsimp only;have hlen : (A ++ (vint (zz (s.length : Int)) ++ (s ++ C))).length = A.length + (vint (zz (s.length : Int))).length + s.length + C.length := by simp only [List.length_append]; omega
  have hd : ((A ++ (vint (zz (s.length : Int)) ++ (s ++ C))).drop (A.length + (vint (zz (s.length : Int))).length)).take s.length = s := by
    rw [← List.append_assoc, List.drop_append_of_le_length (by simp), List.drop_eq_nil_of_le (by simp), List.nil_append, List.take_left' rfl]
  rw [if_pos ⟨rfl, rfl⟩, if_neg (by omega), chk_pos (by unfold I64; omega), if_neg (by rw [hlen]; omega), chk_pos (by unfold I64; omega), chk_pos (by rw [hlen]; omega)];rw [chk_pos (by unfold Go.E.Cap; simp only [List.length_take, List.length_drop, List.length_nil]; omega), chk_pos (by unfold I64; omega), List.nil_append];simp only [Int.toNat_natCast];rw [show ((((A.length + (vint (zz (s.length : Int))).length : Nat) : Int) + (s.length : Int)).toNat - (A.length + (vint (zz (s.length : Int))).length)) = s.length by omega, hd]
  congr 3
  unfold chunkF;rw [List.length_append];omega
theorem rnums_at {B A C : List UInt8} {l : List Int} {x2 : Int × Int × (Int × Int)} (hx : x2.1 = (l.length : Int)) (h : ∀ z ∈ l, I64 z) (hl : B.length ≤ 1000000) : ∀ (k j : Nat), j + k = l.length → B = (A ++ (l.take j).flatMap (fun i => vint (zz i))) ++ ((l.drop j).flatMap (fun i => vint (zz i)) ++ C) →
    Go.L.run (wreads_Number_bl2 B x2) (l.take j, ((A ++ (l.take j).flatMap (fun i => vint (zz i))).length : Int), (j : Int)) = some (l, ((A ++ l.flatMap (fun i => vint (zz i))).length : Int), (0, 0))
  | 0, j, hj, hB => by
    rw [List.take_of_length_le (by omega)];refine run_inr (m := some (l, ((A ++ l.flatMap (fun i => vint (zz i))).length : Int), (0, 0))) ?_;unfold wreads_Number_bl2 wreads_Number_k1;dsimp only;rw [if_neg (by omega)]
  | k + 1, j, hj, hB => by
    have hjl : j < l.length := by omega
    have hl9 : l.length ≤ 1000000 := by
      have h1 : l.length ≤ (l.flatMap fun i => vint (zz i)).length := by
        clear hx h hB hj hjl
        induction l with
        | nil => simp
        | cons z l ih =>
          have : 1 ≤ (vint (zz z)).length := by unfold vint vintN; split <;> simp
          rw [List.flatMap_cons, List.length_append, List.length_cons]; omega
      have h2 : l.flatMap (fun i => vint (zz i)) = (l.take j).flatMap (fun i => vint (zz i)) ++ (l.drop j).flatMap (fun i => vint (zz i)) := by rw [← List.flatMap_append, List.take_append_drop]
      have h3 := congrArg List.length hB;rw [h2, List.length_append] at h1;simp only [List.length_append] at h3;omega
    have hB2 : B = (A ++ (l.take j).flatMap (fun i => vint (zz i))) ++ (vint (zz (l.getD j default)) ++ ((l.drop (j + 1)).flatMap (fun i => vint (zz i)) ++ C)) := by
      rw [drop_cons hjl, List.flatMap_cons] at hB; rw [hB]; simp only [List.append_assoc]
    have hr := rnum_at (A := A ++ (l.take j).flatMap (fun i => vint (zz i))) (C := (l.drop (j + 1)).flatMap (fun i => vint (zz i)) ++ C) (h _ (getD_mem hjl)) (by rw [← hB2]; exact hl);rw [← hB2] at hr;have htk : l.take (j + 1) = l.take j ++ [l.getD j default] := by rw [List.take_add_one, List.getElem?_eq_getElem hjl]; simp [List.getD_eq_getElem?_getD, List.getElem?_eq_getElem hjl]
    have hpos : ((A ++ (l.take (j + 1)).flatMap (fun i => vint (zz i))).length : Int) = (((A ++ (l.take j).flatMap (fun i => vint (zz i))).length + (vint (zz (l.getD j default))).length : Nat) : Int) := by
      rw [take_succ_flatMap _ hjl, ← List.append_assoc, List.length_append]
    have hs : wreads_Number_bl2 B x2 (l.take j, ((A ++ (l.take j).flatMap (fun i => vint (zz i))).length : Int), (j : Int)) = some (.inl (l.take (j + 1), ((A ++ (l.take (j + 1)).flatMap (fun i => vint (zz i))).length : Int), ((j + 1 : Nat) : Int))) := by
      unfold wreads_Number_bl2;dsimp only;rw [if_pos (by omega), hr, Option.bind_some];dsimp only;rw [if_pos ⟨rfl, rfl⟩, chk_pos (by unfold Go.E.Cap; simp only [List.length_take, List.length_cons, List.length_nil]; omega), chk_pos (by unfold I64; omega), hpos, htk]
      rfl
    rw [run_inl hs]
    exact rnums_at (A := A) (C := C) hx h hl k (j + 1) (by omega) (by
      rw [take_succ_flatMap _ hjl];rw [hB2];simp)
theorem ritems_at {A C : List UInt8} {l : List Int} {most : Int} (h : ∀ z ∈ l, I64 z) (hm : (l.length : Int) ≤ most) (hll : l.length ≤ 1000000) (hl : (A ++ (itemsF l ++ C)).length ≤ 1000000) : wreads_Number (A ++ (itemsF l ++ C)) (A.length : Int) most = some (l, ((A.length + (itemsF l).length : Nat) : Int), (0, 0)) := by
  unfold wreads_Number;have e : A ++ (itemsF l ++ C) = A ++ (vint (zz (l.length : Int)) ++ (l.flatMap (fun i => vint (zz i)) ++ C)) := by unfold itemsF; simp
  rw [e] at hl ⊢;rw [rnum_at (by unfold I64; omega) hl, Option.bind_some];dsimp only;rw [if_pos ⟨rfl, rfl⟩, if_neg (by omega)];have := rnums_at (B := A ++ (vint (zz (l.length : Int)) ++ (l.flatMap (fun i => vint (zz i)) ++ C))) (A := A ++ vint (zz (l.length : Int))) (C := C) (l := l) (x2 := ((l.length : Int), ((A.length + (vint (zz (l.length : Int))).length : Nat) : Int), (0, 0))) rfl h hl l.length 0 (by omega) (by simp);rw [List.take_zero, List.flatMap_nil, List.append_nil] at this;unfold wreads_Number_l2;have e2 : ((A ++ vint (zz (l.length : Int))).length : Int) = ((A.length + (vint (zz (l.length : Int))).length : Nat) : Int) := by rw [List.length_append]
  rw [e2] at this;refine this.trans ?_
  congr 3
  unfold itemsF;simp only [List.length_append];omega
theorem rentry_at {A C : List UInt8} {e : En} (h : EnS e) (h64 : e.2.length ≤ 64) (hl : (A ++ (lform e ++ C)).length ≤ 1000000) : shapes_readEntry (A ++ (lform e ++ C)) (A.length : Int) = some (e, ((A.length + (lform e).length : Nat) : Int), (0, 0)) := by
  obtain ⟨p1, p2, p3, p4, p5, p6⟩ := h
  have hll : (lform e).length = (chunkF e.1.1).length + (vint (zz e.1.2.1)).length + (vint (zz e.1.2.2.1)).length + (chunkF e.1.2.2.2).length + (itemsF e.2).length := by
    unfold lform; simp only [List.flatten_cons, List.flatten_nil, List.length_append, List.length_nil]; omega
  have hc1 : e.1.1.length ≤ (chunkF e.1.1).length := by unfold chunkF; simp
  have hc2 : e.1.2.2.2.length ≤ (chunkF e.1.2.2.2).length := by unfold chunkF; simp
  simp only [List.length_append] at hl;have d1 : A ++ (lform e ++ C) = A ++ (chunkF e.1.1 ++ (vint (zz e.1.2.1) ++ (vint (zz e.1.2.2.1) ++ (chunkF e.1.2.2.2 ++ (itemsF e.2 ++ C))))) := by unfold lform; simp
  have d2 : A ++ (lform e ++ C) = (A ++ chunkF e.1.1) ++ (vint (zz e.1.2.1) ++ (vint (zz e.1.2.2.1) ++ (chunkF e.1.2.2.2 ++ (itemsF e.2 ++ C)))) := by rw [d1]; simp
  have d3 : A ++ (lform e ++ C) = (A ++ chunkF e.1.1 ++ vint (zz e.1.2.1)) ++ (vint (zz e.1.2.2.1) ++ (chunkF e.1.2.2.2 ++ (itemsF e.2 ++ C))) := by rw [d1]; simp
  have d4 : A ++ (lform e ++ C) = (A ++ chunkF e.1.1 ++ vint (zz e.1.2.1) ++ vint (zz e.1.2.2.1)) ++ (chunkF e.1.2.2.2 ++ (itemsF e.2 ++ C)) := by rw [d1]; simp
  have d5 : A ++ (lform e ++ C) = (A ++ chunkF e.1.1 ++ vint (zz e.1.2.1) ++ vint (zz e.1.2.2.1) ++ chunkF e.1.2.2.2) ++ (itemsF e.2 ++ C) := by rw [d1]; simp
  have r1 := rchunk_at (A := A) (s := e.1.1) (by omega) (by rw [← d1]; simp only [List.length_append]; omega);rw [← d1] at r1;have r2 := rnum_at (A := A ++ chunkF e.1.1) p2 (by rw [← d2]; simp only [List.length_append]; omega);rw [← d2] at r2;have r3 := rnum_at (A := A ++ chunkF e.1.1 ++ vint (zz e.1.2.1)) p3 (by rw [← d3]; simp only [List.length_append]; omega);rw [← d3] at r3;have r4 := rchunk_at (A := A ++ chunkF e.1.1 ++ vint (zz e.1.2.1) ++ vint (zz e.1.2.2.1)) (s := e.1.2.2.2) (by omega) (by rw [← d4]; simp only [List.length_append]; omega);rw [← d4] at r4;have r5 := ritems_at (A := A ++ chunkF e.1.1 ++ vint (zz e.1.2.1) ++ vint (zz e.1.2.2.1) ++ chunkF e.1.2.2.2) (l := e.2) (most := 64) p5 (by omega) (by omega) (by rw [← d5]; simp only [List.length_append]; omega);rw [← d5] at r5;simp only [List.length_append] at r2 r3 r4 r5;generalize A ++ (lform e ++ C) = B at *;unfold shapes_readEntry;rw [r1, Option.bind_some]; dsimp only; rw [if_pos ⟨rfl, rfl⟩];rw [r2, Option.bind_some]; dsimp only; rw [if_pos ⟨rfl, rfl⟩];rw [r3, Option.bind_some]; dsimp only; rw [if_pos ⟨rfl, rfl⟩];rw [r4, Option.bind_some]; dsimp only; rw [if_pos ⟨rfl, rfl⟩];rw [r5, Option.bind_some]; dsimp only; rw [if_pos ⟨rfl, rfl⟩]
  congr 3
  omega
theorem rentries_at {B A C : List UInt8} {l : List En} {x2 : Int × Int × (Int × Int)} (hx : x2.1 = (l.length : Int)) (h : ∀ z ∈ l, EnS z ∧ z.2.length ≤ 64) (hll : l.length ≤ 1000000) (hl : B.length ≤ 1000000) : ∀ (k j : Nat), j + k = l.length → B = (A ++ (l.take j).flatMap lform) ++ ((l.drop j).flatMap lform ++ C) →
    Go.L.run (wreads_entry_bl2 B x2) (l.take j, ((A ++ (l.take j).flatMap lform).length : Int), (j : Int)) = some (l, ((A ++ l.flatMap lform).length : Int), (0, 0))
  | 0, j, hj, hB => by
    rw [List.take_of_length_le (by omega)];refine run_inr (m := some (l, ((A ++ l.flatMap lform).length : Int), (0, 0))) ?_;unfold wreads_entry_bl2 wreads_entry_k1;dsimp only;rw [if_neg (by omega)]
  | k + 1, j, hj, hB => by
    have hjl : j < l.length := by omega
    have hB2 : B = (A ++ (l.take j).flatMap lform) ++ (lform (l.getD j default) ++ ((l.drop (j + 1)).flatMap lform ++ C)) := by
      rw [drop_cons hjl, List.flatMap_cons] at hB; rw [hB]; simp only [List.append_assoc]
    have hr := rentry_at (A := A ++ (l.take j).flatMap lform) (C := (l.drop (j + 1)).flatMap lform ++ C) (h _ (getD_mem hjl)).1 (h _ (getD_mem hjl)).2 (by rw [← hB2]; exact hl);rw [← hB2] at hr;have htk : l.take (j + 1) = l.take j ++ [l.getD j default] := by rw [List.take_add_one, List.getElem?_eq_getElem hjl]; simp [List.getD_eq_getElem?_getD, List.getElem?_eq_getElem hjl]
    have hpos : ((A ++ (l.take (j + 1)).flatMap lform).length : Int) = (((A ++ (l.take j).flatMap lform).length + (lform (l.getD j default)).length : Nat) : Int) := by
      rw [take_succ_flatMap _ hjl, ← List.append_assoc, List.length_append]
    have hs : wreads_entry_bl2 B x2 (l.take j, ((A ++ (l.take j).flatMap lform).length : Int), (j : Int)) = some (.inl (l.take (j + 1), ((A ++ (l.take (j + 1)).flatMap lform).length : Int), ((j + 1 : Nat) : Int))) := by
      unfold wreads_entry_bl2;dsimp only;rw [if_pos (by omega), hr, Option.bind_some];dsimp only;rw [if_pos ⟨rfl, rfl⟩, chk_pos (by unfold Go.E.Cap; simp only [List.length_take, List.length_cons, List.length_nil]; omega), chk_pos (by unfold I64; omega), hpos, htk]
      rfl
    rw [run_inl hs]
    exact rentries_at (A := A) (C := C) hx h hll hl k (j + 1) (by omega) (by
      rw [take_succ_flatMap _ hjl];rw [hB2];simp)
/-- A good form opens. -/
theorem open_good {n : Int} {es : List En} (hG : GI n es) (h64 : ∀ e ∈ es, e.2.length ≤ 64) (hl : (iform n es).length ≤ 16384) (hcnt : es.length ≤ (iform n es).length) : shapes_Open (iform n es) = some ((n, es), (0, 0)) := by
  have n0 := hG.n0;have n64 := hG.n64;have hn : I64 n := by unfold I64; omega
  have hlE : I64 (es.length : Int) := by have := hG.len; unfold I64; omega
  have d0 : iform n es = [] ++ (vint (zz n) ++ (vint (zz (es.length : Int)) ++ es.flatMap lform)) := rfl;have r1 := rnum_at (A := []) (C := vint (zz (es.length : Int)) ++ es.flatMap lform) hn (by rw [← d0]; omega);rw [← d0] at r1;have d1 : iform n es = vint (zz n) ++ (vint (zz (es.length : Int)) ++ (es.flatMap lform)) := rfl;have r2 := rnum_at (A := vint (zz n)) (C := es.flatMap lform) hlE (by rw [← d1]; omega);rw [← d1] at r2;have r3 := rentries_at (B := iform n es) (A := vint (zz n) ++ vint (zz (es.length : Int))) (C := []) (l := es) (x2 := ((es.length : Int), (((vint (zz n)).length + (vint (zz (es.length : Int))).length : Nat) : Int), (0, 0))) rfl (fun e he => ⟨hG.sz e he, h64 e he⟩) hG.len (by omega) es.length 0 (by omega) (by rw [d1]; simp);rw [List.take_zero, List.flatMap_nil, List.append_nil] at r3
  have hr : wreads_entry (iform n es) ((vint (zz n)).length : Int) ((iform n es).length : Int) = some (es, ((vint (zz n) ++ vint (zz (es.length : Int)) ++ es.flatMap lform).length : Int), (0, 0)) := by
    unfold wreads_entry;rw [r2, Option.bind_some];dsimp only;rw [if_pos ⟨rfl, rfl⟩, if_neg (by omega)];unfold wreads_entry_l2;have e2 : ((vint (zz n) ++ vint (zz (es.length : Int))).length : Int) = (((vint (zz n)).length + (vint (zz (es.length : Int))).length : Nat) : Int) := by rw [List.length_append]
    rw [e2] at r3;exact r3
  unfold shapes_Open shapes_fault;simp only [List.length_nil, Nat.zero_add] at r1;have r1' : wire_ReadNumber (iform n es) 0 = some (n, ((vint (zz n)).length : Int), (0, 0)) := r1;rw [if_neg (by omega), Option.bind_some, r1', Option.bind_some];dsimp only
  rw [if_neg (by have h1 : ¬ n < 0 := by omega
                 have h2 : ¬ 64 < n := by omega
                 simp [h1, h2]), hr, Option.bind_some]
  dsimp only;rw [if_pos ⟨rfl, rfl⟩];unfold shapes_Open_l4;generalize hx14 : (n, ((vint (zz n)).length : Int), ((0 : Int), (0 : Int))) = x14;generalize hx39 : (es, ((vint (zz n) ++ vint (zz (es.length : Int)) ++ es.flatMap lform).length : Int), ((0 : Int), (0 : Int))) = x39;have h14 : x14.1 = n := by rw [← hx14]
  have h39 : x39.1 = es := by rw [← hx39]
  refine run_count (fun i => ((i : Nat) : Int)) es.length (fun i hi => ?_) ?_ 0 (Nat.zero_le _)
  · obtain ⟨c, hv, hc⟩ := valid_ex (es.getD i default) n (hG.sz _ (getD_mem hi)).2.2.2.2.2;have hct := hc.2 (hG.ev _ (getD_mem hi));subst hct;have e0 : ∀ x : En, shapes_entry_valid ((x.1.1, x.1.2.1, x.1.2.2.1, x.1.2.2.2), x.2) = shapes_entry_valid x := fun _ => rfl;unfold shapes_Open_bl4;rw [h14, h39, if_pos (by omega), chk_pos (by omega), Int.toNat_natCast, e0, hv, Option.bind_some, if_neg (by decide)]
    by_cases h0 : 0 < i
    · rw [if_pos (by omega), chk_pos (by unfold I64; omega), chk_pos (by omega), show ((i : Int) - 1).toNat = i - 1 by omega]
      show (shapes_leaf_compare (es.getD i default).1 (es.getD (i - 1) default).1).bind _ = _
      have hlt : lfCmp (es.getD (i - 1) default).1 (es.getD i default).1 < 0 := by
        have := List.pairwise_iff_getElem.1 hG.inc (i - 1) i (by omega) hi (by omega)
        simpa [List.getD_eq_getElem?_getD, List.getElem?_eq_getElem hi, List.getElem?_eq_getElem (show i - 1 < es.length by omega)] using this
      have hsw := ordLf.swap (es.getD i default).1 (es.getD (i - 1) default).1;rw [compare_eq, Option.bind_some, if_neg (by omega), chk_pos (by unfold I64; omega)]
      rfl
    · rw [if_neg (by omega), chk_pos (by unfold I64; omega)]
      rfl
  · unfold shapes_Open_bl4 shapes_Open_k3 bytes_Equal;rw [h14, h39, if_neg (by omega), bytes_eq hn hG.len hG.sz, Option.bind_some, Option.bind_some, if_neg (by simp)]
end Go.Proofs.YtmfiaecglndldaaGreatDoor
end
section
namespace Go.Proofs.YtmfiaecglndldaaGreatDoor
open Go Go.E Go.RowKit
set_option maxHeartbeats 1000000
set_option maxRecDepth 10000
open _root_.Go.Proofs.Tryz
noncomputable def ref4_Before (a0 : (List UInt8) × Int × Int × (List UInt8)) (a1 : (List UInt8) × Int × Int × (List UInt8)) : Option (Bool) :=
 if a0.1 = a1.1 then (if a0.2.1 = a1.2.1 then (if a0.2.2.1 = a1.2.2.1 then some (Op.bytesLess a0.2.2.2 a1.2.2.2) else some (decide (a0.2.2.1 < a1.2.2.1))) else some (decide (a0.2.1 < a1.2.1))) else some (Op.bytesLess a0.1 a1.1)
theorem ref4_Before_ok (w : World) (H : PH) (_hH : Le H (hp w)) {a0 : (List UInt8) × Int × Int × (List UInt8)} {a1 : (List UInt8) × Int × Int × (List UInt8)}   {r : Bool} (h : ref4_Before a0 a1 = some r) :
  Ok Tryz.prog 79 [.agg #[.string ⟨(a0.1).toArray⟩, .int .i64 a0.2.1, .int .i64 a0.2.2.1, .string ⟨(a0.2.2.2).toArray⟩], .agg #[.string ⟨(a1.1).toArray⟩, .int .i64 a1.2.1, .int .i64 a1.2.2.1, .string ⟨(a1.2.2.2).toArray⟩]] w (fun v w' => Ext w w' ∧ v = .bool r) := by
 refine Ok_enter (n := 40) [(0, .agg #[.string ⟨(a0.1).toArray⟩, .int .i64 a0.2.1, .int .i64 a0.2.2.1, .string ⟨(a0.2.2.2).toArray⟩]), (1, .agg #[.string ⟨(a1.1).toArray⟩, .int .i64 a1.2.1, .int .i64 a1.2.2.1, .string ⟨(a1.2.2.2).toArray⟩])] func79 rfl rfl rfl rfl rfl ?_;have hL := Lcl.start w;refine W_seqr ?_;refine S_box (t := 73) rfl rfl rfl hL ?_;intro w1 b1 hL1 hle1 _;refine S_box (t := 73) rfl rfl rfl hL1 ?_;intro w2 b2 hL2 hle2 _;refine S_pz 1 rfl ?_;refine W_seq ?_;refine W_seqr ?_;refine S_v (r_field rfl underlying73 rfl zr9 (by decide)) rfl ?_;refine S_v (r_loadB1 1 rfl underlying9 rfl hL2 rfl rfl) rfl ?_;refine S_v (r_field rfl underlying73 rfl zr9 (by decide)) rfl ?_;refine S_v (r_loadB1 0 rfl underlying9 rfl hL2 rfl rfl) rfl ?_;refine S_v (r_sne rfl rfl) rfl ?_;refine S_seqnil ?_;refine W_ifn rfl (fun hc3 => ?_) (fun hc3 => ?_)
 ·replace h := Go.L.ite_n hc3 h;refine W_seqr ?_;refine S_v (r_field rfl underlying73 rfl zr9 (by decide)) rfl ?_;refine S_v (r_loadB1 1 rfl underlying9 rfl hL2 rfl rfl) rfl ?_;refine S_v (r_field rfl underlying73 rfl zr9 (by decide)) rfl ?_;refine S_v (r_loadB1 0 rfl underlying9 rfl hL2 rfl rfl) rfl ?_;refine S_v (r_slt rfl rfl) rfl ?_;refine S_pz 1 rfl ?_;refine W_ret ?_;refine At_seq_ret ?_;obtain rfl := Option.some.inj h;refine At_body rfl rfl ?_;exact ⟨hL2.ext, rfl⟩
 ·replace h := Go.L.ite_p hc3 h;refine W_skip ?_;refine At_seq ?_;refine W_seq ?_;refine W_seqr ?_;refine S_v (r_field rfl underlying73 rfl zr3 (by decide)) rfl ?_;refine S_v (r_loadB1 1 rfl underlying3 rfl hL2 rfl rfl) rfl ?_;refine S_v (r_field rfl underlying73 rfl zr3 (by decide)) rfl ?_;refine S_v (r_loadB1 0 rfl underlying3 rfl hL2 rfl rfl) rfl ?_;refine S_pz 1 rfl ?_;refine W_ifn rfl (fun hc6 => ?_) (fun hc6 => ?_)
  ·replace h := Go.L.ite_n hc6 h;refine W_seqr ?_;refine S_v (r_field rfl underlying73 rfl zr3 (by decide)) rfl ?_;refine S_v (r_loadB1 1 rfl underlying3 rfl hL2 rfl rfl) rfl ?_;refine S_v (r_field rfl underlying73 rfl zr3 (by decide)) rfl ?_;refine S_v (r_loadB1 0 rfl underlying3 rfl hL2 rfl rfl) rfl ?_;refine S_pz 2 rfl ?_;refine W_ret ?_;refine At_seq_ret ?_;obtain rfl := Option.some.inj h;refine At_body rfl rfl ?_;exact ⟨hL2.ext, rfl⟩
  ·replace h := Go.L.ite_p hc6 h;refine W_skip ?_;refine At_seq ?_;refine W_seq ?_;refine W_seqr ?_;refine S_v (r_field rfl underlying73 rfl zr3 (by decide)) rfl ?_;refine S_v (r_loadB1 1 rfl underlying3 rfl hL2 rfl rfl) rfl ?_;refine S_v (r_field rfl underlying73 rfl zr3 (by decide)) rfl ?_;refine S_v (r_loadB1 0 rfl underlying3 rfl hL2 rfl rfl) rfl ?_;refine S_pz 1 rfl ?_;refine W_ifn rfl (fun hc9 => ?_) (fun hc9 => ?_)
   ·replace h := Go.L.ite_n hc9 h;refine W_seqr ?_;refine S_v (r_field rfl underlying73 rfl zr3 (by decide)) rfl ?_;refine S_v (r_loadB1 1 rfl underlying3 rfl hL2 rfl rfl) rfl ?_;refine S_v (r_field rfl underlying73 rfl zr3 (by decide)) rfl ?_;refine S_v (r_loadB1 0 rfl underlying3 rfl hL2 rfl rfl) rfl ?_;refine S_pz 2 rfl ?_;refine W_ret ?_;refine At_seq_ret ?_;obtain rfl := Option.some.inj h;refine At_body rfl rfl ?_;exact ⟨hL2.ext, rfl⟩
   ·replace h := Go.L.ite_p hc9 h;refine W_skip ?_;refine At_seq ?_;refine W_seqr ?_;refine S_v (r_field rfl underlying73 rfl zr9 (by decide)) rfl ?_;refine S_v (r_loadB1 1 rfl underlying9 rfl hL2 rfl rfl) rfl ?_;refine S_v (r_field rfl underlying73 rfl zr9 (by decide)) rfl ?_;refine S_v (r_loadB1 0 rfl underlying9 rfl hL2 rfl rfl) rfl ?_;refine S_v (r_slt rfl rfl) rfl ?_;refine S_pz 1 rfl ?_;refine W_ret ?_;obtain rfl := Option.some.inj h;refine At_body rfl rfl ?_;exact ⟨hL2.ext, rfl⟩
noncomputable def ref4_varint_k2 (l26 : List UInt8) (s3_27 : Int) : Option ((List UInt8)) :=
 Go.L.chk (Go.E.Cap 1 (l26.length + ([(Go.L.u8 s3_27)]).length)) (some ((l26 ++ [(Go.L.u8 s3_27)])))
noncomputable def ref4_varint_bl3 : (List UInt8) × Int → Option (((List UInt8) × Int) ⊕ ((List UInt8))) := fun ⟨l39, s3_40⟩ =>
 if (128 : Int) ≤ s3_40 then Go.L.chk (0 ≤ s3_40 ∧ s3_40 < 2 ^ 64 ∧ 0 < (128 : Int)) (Go.L.chk (Go.E.Cap 1 (l39.length + ([((Go.L.u8 (s3_40 % (128 : Int))) + (128 : UInt8))]).length)) (Go.L.chk (0 ≤ s3_40 ∧ s3_40 < 2 ^ 64 ∧ 0 < (128 : Int)) (some (Sum.inl ((l39 ++ [((Go.L.u8 (s3_40 % (128 : Int))) + (128 : UInt8))]), (s3_40 / (128 : Int))))))) else Option.map Sum.inr (ref4_varint_k2 l39 s3_40)
noncomputable def ref4_varint_l3 (s : (List UInt8) × Int) : Option ((List UInt8)) := Go.L.run (ref4_varint_bl3) s
noncomputable def ref4_varint_k1 (s3_6 : Int) : Option ((List UInt8)) :=
 ref4_varint_l3 (([] : List UInt8), s3_6)
noncomputable def ref4_varint (a0 : Int) : Option ((List UInt8)) :=
 if a0 < (0 : Int) then Go.L.chk (0 ≤ (IntKind.u64.wrap ((IntKind.u64.wrap a0) * (2 : Int))) ∧ (IntKind.u64.wrap ((IntKind.u64.wrap a0) * (2 : Int))) < 2 ^ 64) (ref4_varint_k1 ((18446744073709551615 ^^^ (IntKind.u64.wrap ((IntKind.u64.wrap a0) * (2 : Int))).toNat : Nat) : Int)) else ref4_varint_k1 (IntKind.u64.wrap ((IntKind.u64.wrap a0) * (2 : Int)))
theorem ref4_varint_ok (w : World) (H : PH) (hH : Le H (hp w)) {a0 : Int}   {r : (List UInt8)} (h : ref4_varint a0 = some r) :
  Ok Tryz.prog 65 [.int .i64 a0] w (fun v w' => Ext w w' ∧ ∃ u0, v = u0 ∧ OwnH 5 .byte H w w' u0 (r)) := by
 refine Ok_enter (n := 28) [(0, .int .i64 a0)] func65 rfl rfl rfl rfl rfl ?_;have hL := Lcl.start w;refine W_pz 1 rfl ?_;refine W_p 1 rfl ?_;refine S_v (r_conv underlying3 underlying136 rfl rfl) rfl ?_;refine S_v (r_ar rfl rfl rfl rfl) rfl ?_;refine S_pz 1 rfl ?_;refine W_cut (σ := Int) (fun s3_6 => [(3, .int .u64 s3_6)]) (fun s3_6 wr => Lcl w [] wr ∧ ref4_varint_k1 s3_6 = some r) ?_ ?_
 ·refine W_pz 2 rfl ?_;refine W_if rfl (fun hc9 => ?_) (fun hc9 => ?_)
  ·replace h := Go.L.ite_p hc9 h;refine W_region ?_;refine S_pu 1 rfl ?_;obtain ⟨hk11, h⟩ := Go.L.chk_some h;refine S_v (r_cplU rfl hk11) rfl ?_;refine S_pu 1 rfl ?_;refine S_nil ?_;refine At_cut ((18446744073709551615 ^^^ (IntKind.u64.wrap ((IntKind.u64.wrap a0) * (2 : Int))).toNat : Nat) : Int) (.cons rfl (Sub.nil _)) ⟨hL, h⟩
  ·replace h := Go.L.ite_n hc9 h;refine W_skip ?_;refine At_cut (IntKind.u64.wrap ((IntKind.u64.wrap a0) * (2 : Int))) (.cons rfl (Sub.nil _)) ⟨hL, h⟩
 ·rintro s3_6 wr7 ⟨hL7, h⟩;refine W_p 1 rfl ?_;obtain ⟨hL14, hle14, he14⟩ := row_nilE .byte H 5 hL7;refine S_seqnil ?_;refine W_cut (σ := (List UInt8) × Int × Value × (List Value)) (fun ⟨l26, s3_27, vl26, xsl26⟩ => [(3, .int .u64 s3_27), (4, vl26)]) (fun ⟨l26, s3_27, vl26, xsl26⟩ wr => InO w [.row (vl26) 5 1 (l26).length (xsl26)] wr fun Oz => Elems .byte (gz H w wr Oz) (l26) (xsl26) ∧ ref4_varint_k2 l26 s3_27 = some r) ?_ ?_
  ·refine W_block ?_;obtain ⟨n41, h⟩ := Go.L.run_some h;refine W_loop (σ := (List UInt8) × Int × Value × (List Value) × Nat) (fun ⟨l39, s3_40, vl39, xsl39, n⟩ => [(3, .int .u64 s3_40), (4, vl39)]) (fun ⟨l39, s3_40, vl39, xsl39, n⟩ wr => InO w [.row (vl39) 5 1 (l39).length (xsl39)] wr fun Oz => Elems .byte (gz H w wr Oz) (l39) (xsl39) ∧ Go.L.itr ref4_varint_bl3 n (l39, s3_40) = some r) (fun ⟨l39, s3_40, vl39, xsl39, n⟩ => n) (([] : List UInt8), s3_6, .slice none 0 0, [], n41) (.cons rfl (.cons rfl (Sub.nil _))) ⟨hL14, he14, h⟩ ?_;rintro ⟨l39, s3_40, vl39, xsl39, nn41⟩ wr41 ⟨hL41, hel39, h⟩;obtain ⟨n41, e41, rfl, h, hm41⟩ := Go.L.itr_some h;refine W_seq ?_;refine W_pz 2 rfl ?_;refine W_if rfl (fun hc43 => ?_) (fun hc43 => ?_)
   ·replace h := Go.L.ite_p hc43 h;refine W_skip ?_;refine At_seq ?_;refine W_block ?_;refine W_p 2 rfl ?_;obtain ⟨hk45, h⟩ := Go.L.chk_some h;refine S_v (r_rem rfl rfl ⟨hk45.1, hk45.2.2⟩) rfl ?_;refine S_v (r_conv underlying136 underlying5 rfl (conv_64_u8 _)) rfl ?_;refine S_v (r_ar8 (b := 128) rfl rfl rfl) rfl ?_;refine S_litE (r := .byte) (l := [((Go.L.u8 (s3_40 % (128 : Int))) + (128 : UInt8))]) rfl (fun _ => bsl35_1 _ _) rfl (show 1 ≤ 9223372036854775807 by decide) hH hL41 (.c1 rfl .nil) ?_;intro v46 w46 hx46 hL46 hle46 hv46;replace hel39 := hel39.mono (gz_mono hH hle46);obtain ⟨hk48, h⟩ := Go.L.chk_some h;refine S_appE (r := .byte) (l := l39) (m := [((Go.L.u8 (s3_40 % (128 : Int))) + (128 : UInt8))]) 0 rfl rfl underlying35 zr5 rfl (by decide) rfl hH hL46 rfl hel39 hv46 hk48 ?_;intro v47 w47 xs47 hL47 hle47 he47;replace hv46 := hv46.mono (gz_mono hH hle47);refine S_pz 1 rfl ?_;refine W_region ?_;refine S_pu 1 rfl ?_;obtain ⟨hk49, h⟩ := Go.L.chk_some h;refine S_v (r_quoU rfl rfl hk49) rfl ?_;refine S_pu 1 rfl ?_;refine S_nil ?_;refine At_block ?_;have h := Go.L.Nxt.again h hm41;refine At_round ((l39 ++ [((Go.L.u8 (s3_40 % (128 : Int))) + (128 : UInt8))]), (s3_40 / (128 : Int)), v47, xs47, n41) (.cons rfl (.cons rfl (Sub.nil _))) ⟨hL47, he47, h⟩ (Nat.lt_succ_self _)
   ·replace h := Go.L.ite_n hc43 h;refine W_exit ?_;refine At_seq_exit ?_;refine At_loop_exit ?_;replace h := Go.L.Nxt.out h hm41;refine At_exit ?_;refine At_cut (l39, s3_40, vl39, xsl39) (.cons rfl (.cons rfl (Sub.nil _))) ⟨hL41, hel39, h⟩
  ·rintro ⟨l26, s3_27, vl26, xsl26⟩ wr28 ⟨hL28, hel26, h⟩;refine W_p 2 rfl ?_;refine S_v (r_conv underlying136 underlying5 rfl (conv_64_u8 _)) rfl ?_;refine S_litE (r := .byte) (l := [(Go.L.u8 s3_27)]) rfl (fun _ => bsl35_1 _ _) rfl (show 1 ≤ 9223372036854775807 by decide) hH hL28 (.c1 rfl .nil) ?_;intro v52 w52 hx52 hL52 hle52 hv52;replace hel26 := hel26.mono (gz_mono hH hle52);obtain ⟨hk54, h⟩ := Go.L.chk_some h;refine S_appE (r := .byte) (l := l26) (m := [(Go.L.u8 s3_27)]) 0 rfl rfl underlying35 zr5 rfl (by decide) rfl hH hL52 rfl hel26 hv52 hk54 ?_;intro v53 w53 xs53 hL53 hle53 he53;replace hv52 := hv52.mono (gz_mono hH hle53);refine S_pz 1 rfl ?_;refine W_ret ?_;obtain rfl := Option.some.inj h;refine At_body rfl rfl ?_;exact ⟨hL53.ext, _, rfl, (hL53.ownH hH (i := 0) rfl he53)⟩
noncomputable def ref4_numberAt_k5 (a0 : List UInt8) (a1 : Int) (s7_17 : Int) (s10_96 : Int) : Option (Int × Int × Bool) :=
 Go.L.chk (Go.L.I64 (s7_17 + (1 : Int))) (Go.L.chk (Go.L.I64 (s7_17 + (1 : Int))) (Go.L.chk (0 ≤ a1 ∧ a1 ≤ (s7_17 + (1 : Int)) ∧ (s7_17 + (1 : Int)) ≤ (a0.length : Int)) (Option.bind (ref4_varint s10_96) (fun x112 => Option.bind (ref3_SameBytes x112 ((a0.drop a1.toNat).take ((s7_17 + (1 : Int)).toNat - a1.toNat))) (fun x116 => some (s10_96, (s7_17 + (1 : Int)), x116))))))
noncomputable def ref4_numberAt_k3 (a0 : List UInt8) (a1 : Int) (s7_17 : Int) (s8_65 : Int) : Option (Int × Int × Bool) :=
 Go.L.chk (0 ≤ s8_65 ∧ s8_65 < 2 ^ 64 ∧ 0 < (2 : Int)) (Go.L.chk (0 ≤ s8_65 ∧ s8_65 < 2 ^ 64 ∧ 0 < (2 : Int)) (if (s8_65 % (2 : Int)) = (1 : Int) then Go.L.chk (Go.L.I64 (-(IntKind.i64.wrap (s8_65 / (2 : Int))))) (Go.L.chk (Go.L.I64 ((-(IntKind.i64.wrap (s8_65 / (2 : Int)))) - (1 : Int))) ((ref4_numberAt_k5 a0 a1 s7_17) ((-(IntKind.i64.wrap (s8_65 / (2 : Int)))) - (1 : Int)))) else (ref4_numberAt_k5 a0 a1 s7_17) (IntKind.i64.wrap (s8_65 / (2 : Int)))))
noncomputable def ref4_numberAt_bl4 (a0 : List UInt8) (a1 : Int) (s7_17 : Int) : Int × Int → Option ((Int × Int) ⊕ (Int × Int × Bool)) := fun ⟨s8_76, s9_77⟩ =>
 if a1 ≤ s9_77 then Go.L.chk (0 ≤ s9_77 ∧ s9_77 < (a0.length : Int)) (Go.L.chk ((0 : Int) < 128) (Go.L.chk (Go.L.I64 (s9_77 - (1 : Int))) (some (Sum.inl ((IntKind.u64.wrap ((IntKind.u64.wrap (s8_76 * (128 : Int))) + (IntKind.u64.wrap ((a0.getD s9_77.toNat default % (128 : UInt8)).toNat : Int)))), (s9_77 - (1 : Int))))))) else Option.map Sum.inr ((ref4_numberAt_k3 a0 a1 s7_17) s8_76)
noncomputable def ref4_numberAt_l4 (a0 : List UInt8) (a1 : Int) (s7_17 : Int) (s : Int × Int) : Option (Int × Int × Bool) := Go.L.run (ref4_numberAt_bl4 a0 a1 s7_17) s
noncomputable def ref4_numberAt_k1 (a0 : List UInt8) (a1 : Int) (s7_17 : Int) : Option (Int × Int × Bool) :=
 if (a0.length : Int) ≤ s7_17 then some ((0 : Int), (0 : Int), false) else (ref4_numberAt_l4 a0 a1 s7_17) ((0 : Int), s7_17)
noncomputable def ref4_numberAt_bl2 (a0 : List UInt8) (a1 : Int) : Int → Option ((Int) ⊕ (Int × Int × Bool)) := fun s7_34 =>
 if s7_34 < (a0.length : Int) then Go.L.chk (Go.L.I64 (a1 + (10 : Int))) (if s7_34 < (a1 + (10 : Int)) then Go.L.chk (0 ≤ s7_34 ∧ s7_34 < (a0.length : Int)) (if 128 ≤ ((a0.getD s7_34.toNat default).toNat : Int) then Go.L.chk (Go.L.I64 (s7_34 + (1 : Int))) (some (Sum.inl (s7_34 + (1 : Int)))) else Option.map Sum.inr ((ref4_numberAt_k1 a0 a1) s7_34)) else Option.map Sum.inr ((ref4_numberAt_k1 a0 a1) s7_34)) else Option.map Sum.inr ((ref4_numberAt_k1 a0 a1) s7_34)
noncomputable def ref4_numberAt_l2 (a0 : List UInt8) (a1 : Int) (s : Int) : Option (Int × Int × Bool) := Go.L.run (ref4_numberAt_bl2 a0 a1) s
noncomputable def ref4_numberAt (a0 : List UInt8) (a1 : Int) : Option (Int × Int × Bool) :=
 (ref4_numberAt_l2 a0 a1) a1
theorem ref4_numberAt_ok (w : World) (H : PH) (hH : Le H (hp w)) {a0 : List UInt8} {a1 : Int} {v0_0 : Value} (h0_0 : Vec .byte H v0_0 (a0)) {r : Int × Int × Bool} (h : ref4_numberAt a0 a1 = some r) :
  Ok Tryz.prog 77 [v0_0, .int .i64 a1] w (fun v w' => Ext w w' ∧ v = .tuple #[.int .i64 r.1, .int .i64 r.2.1, .bool r.2.2]) := by
 refine Ok_enter (n := 70) [(0, v0_0), (1, .int .i64 a1)] func77 rfl rfl rfl rfl rfl ?_;have hL := Lcl.start w;refine W_pz 3 rfl ?_;refine W_pz 2 rfl ?_;refine W_cut (σ := Int) (fun s7_17 => [(0, v0_0), (1, .int .i64 a1), (7, .int .i64 s7_17)]) (fun s7_17 wr => Lcl w [] wr ∧ (ref4_numberAt_k1 a0 a1) s7_17 = some r) ?_ ?_
 ·refine W_block ?_;obtain ⟨n35, h⟩ := Go.L.run_some h;refine W_loop (σ := Int × Nat) (fun ⟨s7_34, n⟩ => [(0, v0_0), (1, .int .i64 a1), (7, .int .i64 s7_34)]) (fun ⟨s7_34, n⟩ wr => Lcl w [] wr ∧ Go.L.itr (ref4_numberAt_bl2 a0 a1) n s7_34 = some r) (fun ⟨s7_34, n⟩ => n) (a1, n35) (.cons rfl (.cons rfl (.cons rfl (Sub.nil _)))) ⟨hL, h⟩ ?_;rintro ⟨s7_34, nn35⟩ wr35 ⟨hL35, h⟩;obtain ⟨n35, e35, rfl, h, hm35⟩ := Go.L.itr_some h;refine W_seq ?_;refine W_p 2 rfl ?_;refine S_v (r_len rfl underlying35 h0_0) rfl ?_;refine S_pu 2 rfl ?_;refine S_split (s := 16) rfl (fun hg37 => ?_) (fun hg37 => ?_)
  ·replace h := Go.L.ite_p (of_decide_eq_true hg37) h;refine S_guarded rfl rfl hg37 ?_;refine S_v (RunsAt_pu rfl) rfl ?_;refine S_guarded rfl rfl hg37 ?_;refine S_v (RunsAt_pu rfl) rfl ?_;refine S_guarded rfl rfl hg37 ?_;obtain ⟨hk39, h⟩ := Go.L.chk_some h;refine S_v (r_ar64 rfl rfl rfl hk39) rfl ?_;refine S_guarded rfl rfl hg37 ?_;refine S_v (RunsAt_pu rfl) rfl ?_;refine S_v (r_pickT rfl hg37 rfl) rfl ?_;refine S_pu 1 rfl ?_;refine S_split (s := 22) rfl (fun hg40 => ?_) (fun hg40 => ?_)
   ·replace h := Go.L.ite_p (of_decide_eq_true hg40) h;refine S_guarded rfl rfl hg40 ?_;refine S_v (RunsAt_pu rfl) rfl ?_;refine S_guarded rfl rfl hg40 ?_;refine S_v (RunsAt_pu rfl) rfl ?_;refine S_guarded rfl rfl hg40 ?_;obtain ⟨hk43, h⟩ := Go.L.chk_some h;refine S_index rfl rfl underlying35 zr5 h0_0 s7_34.toNat (Int.toNat_of_nonneg hk43.1).symm (idx_lt hk43) rfl ?_;rintro p42 _ rfl hp42;refine S_guarded rfl rfl hg40 ?_;refine S_v (r_load1 rfl underlying5 rfl hp42 (hH.trans hL35.arg)) rfl ?_;refine S_guarded rfl rfl hg40 ?_;refine S_v (RunsAt_pu rfl) rfl ?_;refine S_v (r_pickT rfl hg40 rfl) rfl ?_;refine S_seqnil ?_;refine W_if rfl (fun hc44 => ?_) (fun hc44 => ?_)
    ·replace h := Go.L.ite_p hc44 h;refine W_skip ?_;refine At_seq ?_;refine W_block ?_;refine W_region ?_;refine S_pu 1 rfl ?_;obtain ⟨hk46, h⟩ := Go.L.chk_some h;refine S_v (r_ar64 rfl rfl rfl hk46) rfl ?_;refine S_pu 1 rfl ?_;refine S_nil ?_;refine At_block ?_;have h := Go.L.Nxt.again h hm35;refine At_round ((s7_34 + (1 : Int)), n35) (.cons rfl (.cons rfl (.cons rfl (Sub.nil _)))) ⟨hL35, h⟩ (Nat.lt_succ_self _)
    ·replace h := Go.L.ite_n hc44 h;refine W_exit ?_;refine At_seq_exit ?_;refine At_loop_exit ?_;replace h := Go.L.Nxt.out h hm35;refine At_exit ?_;refine At_cut s7_34 (.cons rfl (.cons rfl (.cons rfl (Sub.nil _)))) ⟨hL35, h⟩
   ·replace h := Go.L.ite_n (of_decide_eq_false hg40) h
    iterate 5 refine S_unwanted rfl rfl hg40 rfl ?_
    refine S_v (r_pickF rfl hg40 rfl) rfl ?_;refine S_seqnil ?_;refine W_false rfl ?_;refine W_exit ?_;refine At_seq_exit ?_;refine At_loop_exit ?_;replace h := Go.L.Nxt.out h hm35;refine At_exit ?_;refine At_cut s7_34 (.cons rfl (.cons rfl (.cons rfl (Sub.nil _)))) ⟨hL35, h⟩
  ·replace h := Go.L.ite_n (of_decide_eq_false hg37) h
   iterate 4 refine S_unwanted rfl rfl hg37 rfl ?_
   refine S_v (r_pickF rfl hg37 rfl) rfl ?_;refine S_pu 1 rfl ?_
   iterate 5 refine S_unwanted rfl rfl rfl rfl ?_
   refine S_v (r_pickF rfl rfl rfl) rfl ?_;refine S_seqnil ?_;refine W_false rfl ?_;refine W_exit ?_;refine At_seq_exit ?_;refine At_loop_exit ?_;replace h := Go.L.Nxt.out h hm35;refine At_exit ?_;refine At_cut s7_34 (.cons rfl (.cons rfl (.cons rfl (Sub.nil _)))) ⟨hL35, h⟩
 ·rintro s7_17 wr18 ⟨hL18, h⟩;refine W_seq ?_;refine W_p 2 rfl ?_;refine S_v (r_len rfl underlying35 h0_0) rfl ?_;refine S_pz 1 rfl ?_;refine W_if rfl (fun hc51 => ?_) (fun hc51 => ?_)
  ·replace h := Go.L.ite_p hc51 h;refine W_pz 3 rfl ?_;refine W_ret ?_;refine At_seq_ret ?_;obtain rfl := Option.some.inj h;refine At_body rfl rfl ?_;exact ⟨hL18.ext, rfl⟩
  ·replace h := Go.L.ite_n hc51 h;refine W_skip ?_;refine At_seq ?_;refine W_pz 1 rfl ?_;refine W_cut (σ := Int) (fun s8_65 => [(0, v0_0), (1, .int .i64 a1), (7, .int .i64 s7_17), (8, .int .u64 s8_65)]) (fun s8_65 wr => Lcl w [] wr ∧ (ref4_numberAt_k3 a0 a1 s7_17) s8_65 = some r) ?_ ?_
   ·refine W_pz 2 rfl ?_;refine W_block ?_;obtain ⟨n78, h⟩ := Go.L.run_some h;refine W_loop (σ := Int × Int × Nat) (fun ⟨s8_76, s9_77, n⟩ => [(0, v0_0), (1, .int .i64 a1), (7, .int .i64 s7_17), (8, .int .u64 s8_76), (9, .int .i64 s9_77)]) (fun ⟨s8_76, s9_77, n⟩ wr => Lcl w [] wr ∧ Go.L.itr (ref4_numberAt_bl4 a0 a1 s7_17) n (s8_76, s9_77) = some r) (fun ⟨s8_76, s9_77, n⟩ => n) ((0 : Int), s7_17, n78) (.cons rfl (.cons rfl (.cons rfl (.cons rfl (.cons rfl (Sub.nil _)))))) ⟨hL18, h⟩ ?_;rintro ⟨s8_76, s9_77, nn78⟩ wr78 ⟨hL78, h⟩;obtain ⟨n78, e78, rfl, h, hm78⟩ := Go.L.itr_some h;refine W_seq ?_;refine W_pz 3 rfl ?_;refine W_if rfl (fun hc80 => ?_) (fun hc80 => ?_)
    ·replace h := Go.L.ite_p hc80 h;refine W_skip ?_;refine At_seq ?_;refine W_seq ?_;refine W_block ?_;refine W_region ?_;refine S_pu 1 rfl ?_;refine S_v (r_ar rfl rfl rfl rfl) rfl ?_;refine S_pu 2 rfl ?_;obtain ⟨hk83, h⟩ := Go.L.chk_some h;refine S_index rfl rfl underlying35 zr5 h0_0 s9_77.toNat (Int.toNat_of_nonneg hk83.1).symm (idx_lt hk83) rfl ?_;rintro p82 _ rfl hp82;refine S_v (r_load1 rfl underlying5 rfl hp82 (hH.trans hL78.arg)) rfl ?_;obtain ⟨hk84, h⟩ := Go.L.chk_some h;refine S_v (r_rem8 (b := 128) rfl rfl hk84) rfl ?_;refine S_v (r_conv underlying5 underlying136 rfl rfl) rfl ?_;refine S_v (r_ar rfl rfl rfl rfl) rfl ?_;refine S_pu 1 rfl ?_;refine S_nil ?_;refine At_block ?_;refine At_seq ?_;refine W_region ?_;refine S_pu 1 rfl ?_;obtain ⟨hk85, h⟩ := Go.L.chk_some h;refine S_v (r_ar64 rfl rfl rfl hk85) rfl ?_;refine S_pu 1 rfl ?_;refine S_nil ?_;have h := Go.L.Nxt.again h hm78;refine At_round ((IntKind.u64.wrap ((IntKind.u64.wrap (s8_76 * (128 : Int))) + (IntKind.u64.wrap ((a0.getD s9_77.toNat default % (128 : UInt8)).toNat : Int)))), (s9_77 - (1 : Int)), n78) (.cons rfl (.cons rfl (.cons rfl (.cons rfl (.cons rfl (Sub.nil _)))))) ⟨hL78, h⟩ (Nat.lt_succ_self _)
    ·replace h := Go.L.ite_n hc80 h;refine W_exit ?_;refine At_seq_exit ?_;refine At_loop_exit ?_;replace h := Go.L.Nxt.out h hm78;refine At_exit ?_;refine At_cut s8_76 (.cons rfl (.cons rfl (.cons rfl (.cons rfl (Sub.nil _))))) ⟨hL78, h⟩
   ·rintro s8_65 wr66 ⟨hL66, h⟩;refine W_p 1 rfl ?_;obtain ⟨hk88, h⟩ := Go.L.chk_some h;refine S_v (r_quoU rfl rfl hk88) rfl ?_;refine S_v (r_conv underlying136 underlying3 rfl rfl) rfl ?_;refine S_pz 1 rfl ?_;refine W_cut (σ := Int) (fun s10_96 => [(0, v0_0), (1, .int .i64 a1), (7, .int .i64 s7_17), (10, .int .i64 s10_96)]) (fun s10_96 wr => Lcl w [] wr ∧ (ref4_numberAt_k5 a0 a1 s7_17) s10_96 = some r) ?_ ?_
    ·refine W_p 1 rfl ?_;obtain ⟨hk99, h⟩ := Go.L.chk_some h;refine S_v (r_rem rfl rfl ⟨hk99.1, hk99.2.2⟩) rfl ?_;refine S_pz 1 rfl ?_;refine W_if rfl (fun hc100 => ?_) (fun hc100 => ?_)
     ·replace h := Go.L.ite_p hc100 h;refine W_region ?_;refine S_pu 1 rfl ?_;obtain ⟨hk102, h⟩ := Go.L.chk_some h;refine S_v (r_neg rfl hk102) rfl ?_;obtain ⟨hk103, h⟩ := Go.L.chk_some h;refine S_v (r_ar64 rfl rfl rfl hk103) rfl ?_;refine S_pu 1 rfl ?_;refine S_nil ?_;refine At_cut ((-(IntKind.i64.wrap (s8_65 / (2 : Int)))) - (1 : Int)) (.cons rfl (.cons rfl (.cons rfl (.cons rfl (Sub.nil _))))) ⟨hL66, h⟩
     ·replace h := Go.L.ite_n hc100 h;refine W_skip ?_;refine At_cut (IntKind.i64.wrap (s8_65 / (2 : Int))) (.cons rfl (.cons rfl (.cons rfl (.cons rfl (Sub.nil _))))) ⟨hL66, h⟩
    ·rintro s10_96 wr97 ⟨hL97, h⟩;refine W_seqd (.q 0 (.q 1 (.q 2 (.q 3 (.q 5 (.q 6 (.q 7 (.q 8 (.q 9 (.h 4 (.q 10 (.q 11 (.q 12 (.q 13 (.tail 14))))))))))))))) mixed (by kernel_rfl) (fun w106 hx106 => ?_);have hL107 := hL97.call hx106;refine D_pu 2 rfl ?_;obtain ⟨hk108, h⟩ := Go.L.chk_some h;refine D_v (r_ar64 rfl rfl rfl hk108) rfl rfl ?_;refine D_pu 4 rfl ?_;obtain ⟨hk109, h⟩ := Go.L.chk_some h;refine D_v (r_ar64 rfl rfl rfl hk109) rfl rfl ?_;obtain ⟨hk111, h⟩ := Go.L.chk_some h;refine D_sliceB rfl rfl rfl rfl underlying35 zr5 h0_0 hk111 rfl ?_;intro v110 hv110;obtain ⟨x112, hb112, h⟩ := Go.L.bind_some h;refine D_hcall rfl rfl rfl (fun w114 hx114 => ref4_varint_ok _ _ (gz_le hH (hL107.call hx114)) hb112) ?_;rintro w114 u113_0 w113 hx114 hx113 ⟨_, rfl, hR113_0⟩;have hL115 := hL107.call hx114;have hL113 := hL115.call hx113;have hle113 := fz_ext hL115 hx113;have hv113_0 := hR113_0.vecG hH hL115 hx113;obtain ⟨x116, hb116, h⟩ := Go.L.bind_some h;refine D_call rfl rfl rfl (fun w117 hx117 => ref3_SameBytes_ok _ _ (Le.refl _) ((hv113_0.mono (gz_le hH hL113)).mono hx117.le) ((hv110.mono (hH.trans hL113.arg)).mono hx117.le) hb116) ?_;refine D_pu 3 rfl ?_;refine D_tail (fun w118 hx118 => ?_);have hL119 := hL113.call hx118;have hle119 := fz_ext hL113 hx118;replace hv113_0 := hv113_0.mono (gz_mono hH hle119);refine S_seqnil ?_;refine W_ret ?_;obtain rfl := Option.some.inj h;refine At_body rfl rfl ?_;exact ⟨hL119.ext, rfl⟩
noncomputable def ref4_chunkAt (a0 : List UInt8) (a1 : Int) : Option ((List UInt8) × Int × Bool) :=
 Option.bind (ref4_numberAt a0 a1) (fun x1 => if !x1.2.2 then some (([] : List UInt8), (0 : Int), false) else Go.L.chk (Go.L.I64 ((a0.length : Int) - x1.2.1)) (Option.bind (ref3_In x1.1 (0 : Int) ((a0.length : Int) - x1.2.1)) (fun x7 => if !x7 then some (([] : List UInt8), (0 : Int), false) else Go.L.chk (Go.L.I64 (x1.2.1 + x1.1)) (Go.L.chk (0 ≤ x1.2.1 ∧ x1.2.1 ≤ (x1.2.1 + x1.1) ∧ (x1.2.1 + x1.1) ≤ (a0.length : Int)) (Go.L.chk (Go.L.I64 (x1.2.1 + x1.1)) (some (((a0.drop x1.2.1.toNat).take ((x1.2.1 + x1.1).toNat - x1.2.1.toNat)), (x1.2.1 + x1.1), true)))))))
theorem ref4_chunkAt_ok (w : World) (H : PH) (hH : Le H (hp w)) {a0 : List UInt8} {a1 : Int} {v0_0 : Value} (h0_0 : Vec .byte H v0_0 (a0)) {r : (List UInt8) × Int × Bool} (h : ref4_chunkAt a0 a1 = some r) :
  Ok Tryz.prog 111 [v0_0, .int .i64 a1] w (fun v w' => Ext w w' ∧ v = .tuple #[.string ⟨(r.1).toArray⟩, .int .i64 r.2.1, .bool r.2.2]) := by
 refine Ok_enter (n := 38) [(0, v0_0), (1, .int .i64 a1)] func111 rfl rfl rfl rfl rfl ?_;have hL := Lcl.start w;refine W_pz 3 rfl ?_;refine W_p 2 rfl ?_;obtain ⟨x1, hb1, h⟩ := Go.L.bind_some h;refine S_callL rfl rfl hL (ref4_numberAt_ok _ _ (gz_le hH hL) (h0_0.mono (gz_left hH)) hb1) ?_;rintro _ w2 rfl hx2 hL2 hle2;refine S_pz 7 rfl ?_;refine W_seq ?_;refine W_p 3 rfl ?_;refine S_split (s := 19) rfl (fun hg3 => ?_) (fun hg3 => ?_)
 ·replace h := Go.L.ite_t hg3 h
  iterate 7 refine S_unwanted rfl rfl hg3 rfl ?_
  refine S_v (r_pickT rfl hg3 rfl) rfl ?_;refine S_seqnil ?_;refine W_true rfl ?_;refine W_pz 3 rfl ?_;refine W_ret ?_;refine At_seq_ret ?_;obtain rfl := Option.some.inj h;refine At_body rfl rfl ?_;exact ⟨hL2.ext, rfl⟩
 ·replace h := Go.L.ite_f hg3 h;refine S_guarded rfl rfl hg3 ?_;refine S_v (RunsAt_pu rfl) rfl ?_;refine S_guarded rfl rfl hg3 ?_;refine S_v (RunsAt_pu rfl) rfl ?_;refine S_guarded rfl rfl hg3 ?_;refine S_v (r_len rfl underlying35 h0_0) rfl ?_;refine S_guarded rfl rfl hg3 ?_;refine S_v (RunsAt_pu rfl) rfl ?_;refine S_guarded rfl rfl hg3 ?_;obtain ⟨hk6, h⟩ := Go.L.chk_some h;refine S_v (r_ar64 rfl rfl rfl hk6) rfl ?_;refine S_guarded rfl rfl hg3 ?_;obtain ⟨x7, hb7, h⟩ := Go.L.bind_some h;refine S_callL rfl rfl hL2 (ref3_In_ok _ _ (gz_le hH hL2) hb7) ?_;rintro _ w8 rfl hx8 hL8 hle8;refine S_guarded rfl rfl hg3 ?_;refine S_v (RunsAt_pu rfl) rfl ?_;refine S_v (r_pickF rfl hg3 rfl) rfl ?_;refine S_seqnil ?_;refine W_cond rfl (fun hc9 => ?_) (fun hc9 => ?_)
  ·replace h := Go.L.ite_t hc9 h;refine W_pz 3 rfl ?_;refine W_ret ?_;refine At_seq_ret ?_;obtain rfl := Option.some.inj h;refine At_body rfl rfl ?_;exact ⟨hL8.ext, rfl⟩
  ·replace h := Go.L.ite_f hc9 h;refine W_skip ?_;refine At_seq ?_;refine W_p 4 rfl ?_;obtain ⟨hk12, h⟩ := Go.L.chk_some h;refine S_v (r_ar64 rfl rfl rfl hk12) rfl ?_;obtain ⟨hk14, h⟩ := Go.L.chk_some h;refine S_sliceB rfl rfl rfl underlying35 zr5 h0_0 hk14 rfl ?_;intro v13 hv13;refine S_v (r_str rfl underlying35 underlying5 underlying9 hv13 (hH.trans hL8.arg)) rfl ?_;refine S_pu 2 rfl ?_;obtain ⟨hk15, h⟩ := Go.L.chk_some h;refine S_v (r_ar64 rfl rfl rfl hk15) rfl ?_;refine S_pz 3 rfl ?_;refine W_ret ?_;obtain rfl := Option.some.inj h;refine At_body rfl rfl ?_;exact ⟨hL8.ext, rfl⟩
noncomputable def ref4_leafAt_k6 (x2 : (List UInt8) × Int × Bool) (x36 : Int × Int × Bool) (x62 : Int × Int × Bool) (x90 : (List UInt8) × Int × Bool) (l219 : List Int) (s1_220 : Int) : Option (((List UInt8) × Int × Int × (List UInt8)) × (List Int) × Int × Bool) :=
 some ((x2.1, x36.1, x62.1, x90.1), l219, s1_220, true)
noncomputable def ref4_leafAt_bl7 (a0 : List UInt8) (a2 : Int) (x118 : Int × Int × Bool) (x2 : (List UInt8) × Int × Bool) (x36 : Int × Int × Bool) (x62 : Int × Int × Bool) (x90 : (List UInt8) × Int × Bool) : (List Int) × Int × Int → Option (((List Int) × Int × Int) ⊕ (((List UInt8) × Int × Int × (List UInt8)) × (List Int) × Int × Bool)) := fun ⟨l258, s1_259, s17_260⟩ =>
 if s17_260 < x118.1 then Option.bind (ref4_numberAt a0 s1_259) (fun x265 => if !x265.2.2 then Option.map Sum.inr (some ((([] : List UInt8), (0 : Int), (0 : Int), ([] : List UInt8)), [], (0 : Int), false)) else Go.L.chk (Go.L.I64 (a2 - (1 : Int))) (Option.bind (ref3_In x265.1 (0 : Int) (a2 - (1 : Int))) (fun x272 => if !x272 then Option.map Sum.inr (some ((([] : List UInt8), (0 : Int), (0 : Int), ([] : List UInt8)), [], (0 : Int), false)) else if (0 : Int) < s17_260 then Go.L.chk (Go.L.I64 (s17_260 - (1 : Int))) (Go.L.chk (0 ≤ (s17_260 - (1 : Int)) ∧ (s17_260 - (1 : Int)) < (l258.length : Int)) (if x265.1 ≤ l258.getD ((s17_260 - (1 : Int)).toNat) default then Option.map Sum.inr (some ((([] : List UInt8), (0 : Int), (0 : Int), ([] : List UInt8)), [], (0 : Int), false)) else Go.L.chk (Go.E.Cap 8 (l258.length + ([x265.1]).length)) (Go.L.chk (Go.L.I64 (s17_260 + (1 : Int))) (some (Sum.inl ((l258 ++ [x265.1]), x265.2.1, (s17_260 + (1 : Int)))))))) else Go.L.chk (Go.E.Cap 8 (l258.length + ([x265.1]).length)) (Go.L.chk (Go.L.I64 (s17_260 + (1 : Int))) (some (Sum.inl ((l258 ++ [x265.1]), x265.2.1, (s17_260 + (1 : Int))))))))) else Option.map Sum.inr ((ref4_leafAt_k6 x2 x36 x62 x90) l258 s1_259)
noncomputable def ref4_leafAt_l7 (a0 : List UInt8) (a2 : Int) (x118 : Int × Int × Bool) (x2 : (List UInt8) × Int × Bool) (x36 : Int × Int × Bool) (x62 : Int × Int × Bool) (x90 : (List UInt8) × Int × Bool) (s : (List Int) × Int × Int) : Option (((List UInt8) × Int × Int × (List UInt8)) × (List Int) × Int × Bool) := Go.L.run (ref4_leafAt_bl7 a0 a2 x118 x2 x36 x62 x90) s
noncomputable def ref4_leafAt_k5 (a0 : List UInt8) (a2 : Int) (x118 : Int × Int × Bool) (x2 : (List UInt8) × Int × Bool) (x36 : Int × Int × Bool) (x62 : Int × Int × Bool) (x90 : (List UInt8) × Int × Bool) : Option (((List UInt8) × Int × Int × (List UInt8)) × (List Int) × Int × Bool) :=
 (ref4_leafAt_l7 a0 a2 x118 x2 x36 x62 x90) (([] : List Int), x118.2.1, (0 : Int))
noncomputable def ref4_leafAt_k4 (a0 : List UInt8) (a2 : Int) (x2 : (List UInt8) × Int × Bool) (x36 : Int × Int × Bool) (x62 : Int × Int × Bool) (x90 : (List UInt8) × Int × Bool) : Option (((List UInt8) × Int × Int × (List UInt8)) × (List Int) × Int × Bool) :=
 Option.bind (ref4_numberAt a0 x90.2.1) (fun x118 => if !x118.2.2 then some ((([] : List UInt8), (0 : Int), (0 : Int), ([] : List UInt8)), [], (0 : Int), false) else Option.bind (ref3_In x118.1 (1 : Int) a2) (fun x137 => if !x137 then some ((([] : List UInt8), (0 : Int), (0 : Int), ([] : List UInt8)), [], (0 : Int), false) else (ref4_leafAt_k5 a0 a2 x118 x2 x36 x62 x90)))
noncomputable def ref4_leafAt_k3 (a0 : List UInt8) (a2 : Int) (x2 : (List UInt8) × Int × Bool) (x36 : Int × Int × Bool) (x62 : Int × Int × Bool) : Option (((List UInt8) × Int × Int × (List UInt8)) × (List Int) × Int × Bool) :=
 Option.bind (ref4_chunkAt a0 x62.2.1) (fun x90 => if !x90.2.2 then some ((([] : List UInt8), (0 : Int), (0 : Int), ([] : List UInt8)), [], (0 : Int), false) else if x36.1 = (2 : Int) then (ref4_leafAt_k4 a0 a2 x2 x36 x62 x90) else if x90.1 = ([] : List UInt8) then (ref4_leafAt_k4 a0 a2 x2 x36 x62 x90) else some ((([] : List UInt8), (0 : Int), (0 : Int), ([] : List UInt8)), [], (0 : Int), false))
noncomputable def ref4_leafAt_k2 (a0 : List UInt8) (a2 : Int) (x2 : (List UInt8) × Int × Bool) (x36 : Int × Int × Bool) : Option (((List UInt8) × Int × Int × (List UInt8)) × (List Int) × Int × Bool) :=
 Option.bind (ref4_numberAt a0 x36.2.1) (fun x62 => if !x62.2.2 then some ((([] : List UInt8), (0 : Int), (0 : Int), ([] : List UInt8)), [], (0 : Int), false) else if x36.1 = (1 : Int) then (ref4_leafAt_k3 a0 a2 x2 x36 x62) else if x62.1 = (0 : Int) then (ref4_leafAt_k3 a0 a2 x2 x36 x62) else some ((([] : List UInt8), (0 : Int), (0 : Int), ([] : List UInt8)), [], (0 : Int), false))
noncomputable def ref4_leafAt_k1 (a0 : List UInt8) (a2 : Int) (x2 : (List UInt8) × Int × Bool) : Option (((List UInt8) × Int × Int × (List UInt8)) × (List Int) × Int × Bool) :=
 Option.bind (ref4_numberAt a0 x2.2.1) (fun x36 => if !x36.2.2 then some ((([] : List UInt8), (0 : Int), (0 : Int), ([] : List UInt8)), [], (0 : Int), false) else Option.bind (ref3_In x36.1 (1 : Int) (4 : Int)) (fun x55 => if !x55 then some ((([] : List UInt8), (0 : Int), (0 : Int), ([] : List UInt8)), [], (0 : Int), false) else (ref4_leafAt_k2 a0 a2 x2 x36)))
noncomputable def ref4_leafAt (a0 : List UInt8) (a1 : Int) (a2 : Int) : Option (((List UInt8) × Int × Int × (List UInt8)) × (List Int) × Int × Bool) :=
 Option.bind (ref4_chunkAt a0 a1) (fun x2 => if !x2.2.2 then some ((([] : List UInt8), (0 : Int), (0 : Int), ([] : List UInt8)), [], (0 : Int), false) else if (330 : Int) < (x2.1.length : Int) then some ((([] : List UInt8), (0 : Int), (0 : Int), ([] : List UInt8)), [], (0 : Int), false) else Option.bind (ref4_Wrong x2.1 false) (fun x29 => if (0 : Int) ≤ x29 then some ((([] : List UInt8), (0 : Int), (0 : Int), ([] : List UInt8)), [], (0 : Int), false) else (ref4_leafAt_k1 a0 a2 x2)))
theorem ref4_leafAt_ok (w : World) (H : PH) (hH : Le H (hp w)) {a0 : List UInt8} {a1 : Int} {a2 : Int} {v0_0 : Value} (h0_0 : Vec .byte H v0_0 (a0)) {r : ((List UInt8) × Int × Int × (List UInt8)) × (List Int) × Int × Bool} (h : ref4_leafAt a0 a1 a2 = some r) :
  Ok Tryz.prog 78 [v0_0, .int .i64 a1, .int .i64 a2] w (fun v w' => Ext w w' ∧ ∃ u0, v = .tuple #[.agg #[.string ⟨(r.1.1).toArray⟩, .int .i64 r.1.2.1, .int .i64 r.1.2.2.1, .string ⟨(r.1.2.2.2).toArray⟩], u0, .int .i64 r.2.2.1, .bool r.2.2.2] ∧ OwnH 3 (.int .i64) H w w' u0 (r.2.1)) := by
 refine Ok_enter (n := 155) [(0, v0_0), (1, .int .i64 a1), (2, .int .i64 a2)] func78 rfl rfl rfl rfl rfl ?_;have hL := Lcl.start w;refine W_seqr ?_;refine S_alloc zr73 rfl rfl hL ?_;intro w1 b1 hL1 hle1 _;refine S_pz 3 rfl ?_;refine W_p 2 rfl ?_;obtain ⟨x2, hb2, h⟩ := Go.L.bind_some h;refine S_callL rfl rfl hL1 (ref4_chunkAt_ok _ _ (gz_le hH hL1) (h0_0.mono (gz_left hH)) hb2) ?_;rintro _ w3 rfl hx3 hL3 hle3;refine S_pz 7 rfl ?_;refine W_cut (σ := Unit) (fun (_ : Unit) => [(0, v0_0), (1, .int .i64 x2.2.1), (2, .int .i64 a2), (6, .pointer (some ⟨b1, 0, none⟩)), (10, .string ⟨(x2.1).toArray⟩)]) (fun (_ : Unit) wr => Lcl w [.box b1 [.string ⟨(([] : List UInt8)).toArray⟩, .int .i64 (0 : Int), .int .i64 (0 : Int), .string ⟨(([] : List UInt8)).toArray⟩] 73] wr ∧ (ref4_leafAt_k1 a0 a2 x2) = some r) ?_ ?_
 ·refine W_p 3 rfl ?_;refine S_split (s := 30) rfl (fun hg21 => ?_) (fun hg21 => ?_)
  ·replace h := Go.L.ite_t hg21 h
   iterate 3 refine S_unwanted rfl rfl hg21 rfl ?_
   refine S_v (r_pickT rfl hg21 rfl) rfl ?_;refine S_pu 1 rfl ?_
   iterate 3 refine S_unwanted rfl rfl rfl rfl ?_
   refine S_v (r_pickT rfl rfl rfl) rfl ?_;refine S_seqnil ?_;refine W_true rfl ?_;refine W_seqr ?_;refine S_v (r_build rfl (fun _ => bld73_z _)) rfl ?_;refine S_storeBN 0 rfl rfl rfl zr73 hL3 rfl rfl (onc rfl (onc rfl (onc rfl (onc rfl on0)))) ?_;intro w23 hL23 hle23;refine S_pz 3 rfl ?_;refine W_ret ?_;refine At_cut_ret ?_;obtain rfl := Option.some.inj h;refine At_got4 rfl (.cell rfl underlying73 rfl zr73 (box_ptr (i := 0) hL23 rfl)) (.tmp rfl) (.tmp rfl) (.tmp rfl) ?_;exact ⟨hL23.ext, _, rfl, OwnH.nil⟩
  ·replace h := Go.L.ite_f hg21 h;refine S_guarded rfl rfl hg21 ?_;refine S_v (RunsAt_pu rfl) rfl ?_;refine S_guarded rfl rfl hg21 ?_;refine S_v (r_lenS rfl underlying9) rfl ?_;refine S_guarded rfl rfl hg21 ?_;refine S_v (RunsAt_pu rfl) rfl ?_;refine S_v (r_pickF rfl hg21 rfl) rfl ?_;refine S_pu 1 rfl ?_;refine S_split (s := 35) rfl (fun hg25 => ?_) (fun hg25 => ?_)
   ·replace h := Go.L.ite_p (of_decide_eq_true hg25) h
    iterate 3 refine S_unwanted rfl rfl hg25 rfl ?_
    refine S_v (r_pickT rfl hg25 rfl) rfl ?_;refine S_seqnil ?_;refine W_true rfl ?_;refine W_seqr ?_;refine S_v (r_build rfl (fun _ => bld73_z _)) rfl ?_;refine S_storeBN 0 rfl rfl rfl zr73 hL3 rfl rfl (onc rfl (onc rfl (onc rfl (onc rfl on0)))) ?_;intro w27 hL27 hle27;refine S_pz 3 rfl ?_;refine W_ret ?_;refine At_cut_ret ?_;obtain rfl := Option.some.inj h;refine At_got4 rfl (.cell rfl underlying73 rfl zr73 (box_ptr (i := 0) hL27 rfl)) (.tmp rfl) (.tmp rfl) (.tmp rfl) ?_;exact ⟨hL27.ext, _, rfl, OwnH.nil⟩
   ·replace h := Go.L.ite_n (of_decide_eq_false hg25) h;refine S_guarded rfl rfl hg25 ?_;refine S_v (RunsAt_pu rfl) rfl ?_;refine S_guarded rfl rfl hg25 ?_;obtain ⟨x29, hb29, h⟩ := Go.L.bind_some h;refine S_callL rfl rfl hL3 (ref4_Wrong_ok _ _ (gz_le hH hL3) hb29) ?_;rintro _ w30 rfl hx30 hL30 hle30;refine S_guarded rfl rfl hg25 ?_;refine S_v (RunsAt_pu rfl) rfl ?_;refine S_v (r_pickF rfl hg25 rfl) rfl ?_;refine S_seqnil ?_;refine W_if rfl (fun hc31 => ?_) (fun hc31 => ?_)
    ·replace h := Go.L.ite_p hc31 h;refine W_seqr ?_;refine S_v (r_build rfl (fun _ => bld73_z _)) rfl ?_;refine S_storeBN 0 rfl rfl rfl zr73 hL30 rfl rfl (onc rfl (onc rfl (onc rfl (onc rfl on0)))) ?_;intro w33 hL33 hle33;refine S_pz 3 rfl ?_;refine W_ret ?_;refine At_cut_ret ?_;obtain rfl := Option.some.inj h;refine At_got4 rfl (.cell rfl underlying73 rfl zr73 (box_ptr (i := 0) hL33 rfl)) (.tmp rfl) (.tmp rfl) (.tmp rfl) ?_;exact ⟨hL33.ext, _, rfl, OwnH.nil⟩
    ·replace h := Go.L.ite_n hc31 h;refine W_skip ?_;refine At_cut () (.cons rfl (.cons rfl (.cons rfl (.cons rfl (.cons rfl (Sub.nil _)))))) ⟨hL30, h⟩
 ·rintro _ wr19 ⟨hL19, h⟩;refine W_p 2 rfl ?_;obtain ⟨x36, hb36, h⟩ := Go.L.bind_some h;refine S_callL rfl rfl hL19 (ref4_numberAt_ok _ _ (gz_le hH hL19) (h0_0.mono (gz_left hH)) hb36) ?_;rintro _ w37 rfl hx37 hL37 hle37;refine S_pz 7 rfl ?_;refine W_cut (σ := Unit) (fun (_ : Unit) => [(0, v0_0), (1, .int .i64 x36.2.1), (2, .int .i64 a2), (6, .pointer (some ⟨b1, 0, none⟩)), (10, .string ⟨(x2.1).toArray⟩), (12, .int .i64 x36.1)]) (fun (_ : Unit) wr => Lcl w [.box b1 [.string ⟨(([] : List UInt8)).toArray⟩, .int .i64 (0 : Int), .int .i64 (0 : Int), .string ⟨(([] : List UInt8)).toArray⟩] 73] wr ∧ (ref4_leafAt_k2 a0 a2 x2 x36) = some r) ?_ ?_
  ·refine W_p 3 rfl ?_;refine S_split (s := 50) rfl (fun hg51 => ?_) (fun hg51 => ?_)
   ·replace h := Go.L.ite_t hg51 h
    iterate 3 refine S_unwanted rfl rfl hg51 rfl ?_
    refine S_v (r_pickT rfl hg51 rfl) rfl ?_;refine S_seqnil ?_;refine W_true rfl ?_;refine W_seqr ?_;refine S_v (r_build rfl (fun _ => bld73_z _)) rfl ?_;refine S_storeBN 0 rfl rfl rfl zr73 hL37 rfl rfl (onc rfl (onc rfl (onc rfl (onc rfl on0)))) ?_;intro w53 hL53 hle53;refine S_pz 3 rfl ?_;refine W_ret ?_;refine At_cut_ret ?_;obtain rfl := Option.some.inj h;refine At_got4 rfl (.cell rfl underlying73 rfl zr73 (box_ptr (i := 0) hL53 rfl)) (.tmp rfl) (.tmp rfl) (.tmp rfl) ?_;exact ⟨hL53.ext, _, rfl, OwnH.nil⟩
   ·replace h := Go.L.ite_f hg51 h;refine S_guarded rfl rfl hg51 ?_;refine S_v (RunsAt_pu rfl) rfl ?_;refine S_guarded rfl rfl hg51 ?_;obtain ⟨x55, hb55, h⟩ := Go.L.bind_some h;refine S_callL rfl rfl hL37 (ref3_In_ok _ _ (gz_le hH hL37) hb55) ?_;rintro _ w56 rfl hx56 hL56 hle56;refine S_guarded rfl rfl hg51 ?_;refine S_v (RunsAt_pu rfl) rfl ?_;refine S_v (r_pickF rfl hg51 rfl) rfl ?_;refine S_seqnil ?_;refine W_cond rfl (fun hc57 => ?_) (fun hc57 => ?_)
    ·replace h := Go.L.ite_t hc57 h;refine W_seqr ?_;refine S_v (r_build rfl (fun _ => bld73_z _)) rfl ?_;refine S_storeBN 0 rfl rfl rfl zr73 hL56 rfl rfl (onc rfl (onc rfl (onc rfl (onc rfl on0)))) ?_;intro w59 hL59 hle59;refine S_pz 3 rfl ?_;refine W_ret ?_;refine At_cut_ret ?_;obtain rfl := Option.some.inj h;refine At_got4 rfl (.cell rfl underlying73 rfl zr73 (box_ptr (i := 0) hL59 rfl)) (.tmp rfl) (.tmp rfl) (.tmp rfl) ?_;exact ⟨hL59.ext, _, rfl, OwnH.nil⟩
    ·replace h := Go.L.ite_f hc57 h;refine W_skip ?_;refine At_cut () (.cons rfl (.cons rfl (.cons rfl (.cons rfl (.cons rfl (.cons rfl (Sub.nil _))))))) ⟨hL56, h⟩
  ·rintro _ wr49 ⟨hL49, h⟩;refine W_p 2 rfl ?_;obtain ⟨x62, hb62, h⟩ := Go.L.bind_some h;refine S_callL rfl rfl hL49 (ref4_numberAt_ok _ _ (gz_le hH hL49) (h0_0.mono (gz_left hH)) hb62) ?_;rintro _ w63 rfl hx63 hL63 hle63;refine S_pz 7 rfl ?_;refine W_cut (σ := Unit) (fun (_ : Unit) => [(0, v0_0), (1, .int .i64 x62.2.1), (2, .int .i64 a2), (6, .pointer (some ⟨b1, 0, none⟩)), (10, .string ⟨(x2.1).toArray⟩), (12, .int .i64 x36.1), (13, .int .i64 x62.1)]) (fun (_ : Unit) wr => Lcl w [.box b1 [.string ⟨(([] : List UInt8)).toArray⟩, .int .i64 (0 : Int), .int .i64 (0 : Int), .string ⟨(([] : List UInt8)).toArray⟩] 73] wr ∧ (ref4_leafAt_k3 a0 a2 x2 x36 x62) = some r) ?_ ?_
   ·refine W_p 3 rfl ?_;refine S_split (s := 65) rfl (fun hg78 => ?_) (fun hg78 => ?_)
    ·replace h := Go.L.ite_t hg78 h
     iterate 3 refine S_unwanted rfl rfl hg78 rfl ?_
     iterate 2 refine S_unwanted2 rfl rfl rfl ?_
     refine S_unwanted rfl rfl hg78 rfl ?_;refine S_v (r_pickT rfl hg78 rfl) rfl ?_;refine S_seqnil ?_;refine W_true rfl ?_;refine W_seqr ?_;refine S_v (r_build rfl (fun _ => bld73_z _)) rfl ?_;refine S_storeBN 0 rfl rfl rfl zr73 hL63 rfl rfl (onc rfl (onc rfl (onc rfl (onc rfl on0)))) ?_;intro w80 hL80 hle80;refine S_pz 3 rfl ?_;refine W_ret ?_;refine At_cut_ret ?_;obtain rfl := Option.some.inj h;refine At_got4 rfl (.cell rfl underlying73 rfl zr73 (box_ptr (i := 0) hL80 rfl)) (.tmp rfl) (.tmp rfl) (.tmp rfl) ?_;exact ⟨hL80.ext, _, rfl, OwnH.nil⟩
    ·replace h := Go.L.ite_f hg78 h;refine S_guarded rfl rfl hg78 ?_;refine S_v (RunsAt_pu rfl) rfl ?_;refine S_guarded rfl rfl hg78 ?_;refine S_v (RunsAt_pu rfl) rfl ?_;refine S_guarded rfl rfl hg78 ?_;refine S_v (RunsAt_pu rfl) rfl ?_;refine S_split (s := 68) rfl (fun hg82 => ?_) (fun hg82 => ?_)
     ·replace h := Go.L.ite_n (not_dec_t hg82) h;refine S_guarded rfl rfl hg82 ?_;refine S_v (RunsAt_pu rfl) rfl ?_;refine S_guarded rfl rfl hg82 ?_;refine S_v (RunsAt_pu rfl) rfl ?_;refine S_guarded rfl rfl hg78 ?_;refine S_v (r_pickT rfl hg82 rfl) rfl ?_;refine S_v (r_pickF rfl hg78 rfl) rfl ?_;refine S_seqnil ?_;refine W_ifn rfl (fun hc84 => ?_) (fun hc84 => ?_)
      ·replace h := Go.L.ite_n hc84 h;refine W_seqr ?_;refine S_v (r_build rfl (fun _ => bld73_z _)) rfl ?_;refine S_storeBN 0 rfl rfl rfl zr73 hL63 rfl rfl (onc rfl (onc rfl (onc rfl (onc rfl on0)))) ?_;intro w86 hL86 hle86;refine S_pz 3 rfl ?_;refine W_ret ?_;refine At_cut_ret ?_;obtain rfl := Option.some.inj h;refine At_got4 rfl (.cell rfl underlying73 rfl zr73 (box_ptr (i := 0) hL86 rfl)) (.tmp rfl) (.tmp rfl) (.tmp rfl) ?_;exact ⟨hL86.ext, _, rfl, OwnH.nil⟩
      ·replace h := Go.L.ite_p hc84 h;refine W_skip ?_;refine At_cut () (.cons rfl (.cons rfl (.cons rfl (.cons rfl (.cons rfl (.cons rfl (.cons rfl (Sub.nil _)))))))) ⟨hL63, h⟩
     ·replace h := Go.L.ite_p (not_dec_f hg82) h
      iterate 2 refine S_unwanted rfl rfl hg82 rfl ?_
      refine S_guarded rfl rfl hg78 ?_;refine S_v (r_pickF rfl hg82 rfl) rfl ?_;refine S_v (r_pickF rfl hg78 rfl) rfl ?_;refine S_seqnil ?_;refine W_false rfl ?_;refine W_skip ?_;refine At_cut () (.cons rfl (.cons rfl (.cons rfl (.cons rfl (.cons rfl (.cons rfl (.cons rfl (Sub.nil _)))))))) ⟨hL63, h⟩
   ·rintro _ wr76 ⟨hL76, h⟩;refine W_p 2 rfl ?_;obtain ⟨x90, hb90, h⟩ := Go.L.bind_some h;refine S_callL rfl rfl hL76 (ref4_chunkAt_ok _ _ (gz_le hH hL76) (h0_0.mono (gz_left hH)) hb90) ?_;rintro _ w91 rfl hx91 hL91 hle91;refine S_pz 7 rfl ?_;refine W_cut (σ := Unit) (fun (_ : Unit) => [(0, v0_0), (1, .int .i64 x90.2.1), (2, .int .i64 a2), (6, .pointer (some ⟨b1, 0, none⟩)), (10, .string ⟨(x2.1).toArray⟩), (12, .int .i64 x36.1), (13, .int .i64 x62.1), (14, .string ⟨(x90.1).toArray⟩)]) (fun (_ : Unit) wr => Lcl w [.box b1 [.string ⟨(([] : List UInt8)).toArray⟩, .int .i64 (0 : Int), .int .i64 (0 : Int), .string ⟨(([] : List UInt8)).toArray⟩] 73] wr ∧ (ref4_leafAt_k4 a0 a2 x2 x36 x62 x90) = some r) ?_ ?_
    ·refine W_p 3 rfl ?_;refine S_split (s := 83) rfl (fun hg106 => ?_) (fun hg106 => ?_)
     ·replace h := Go.L.ite_t hg106 h
      iterate 3 refine S_unwanted rfl rfl hg106 rfl ?_
      iterate 2 refine S_unwanted2 rfl rfl rfl ?_
      refine S_unwanted rfl rfl hg106 rfl ?_;refine S_v (r_pickT rfl hg106 rfl) rfl ?_;refine S_seqnil ?_;refine W_true rfl ?_;refine W_seqr ?_;refine S_v (r_build rfl (fun _ => bld73_z _)) rfl ?_;refine S_storeBN 0 rfl rfl rfl zr73 hL91 rfl rfl (onc rfl (onc rfl (onc rfl (onc rfl on0)))) ?_;intro w108 hL108 hle108;refine S_pz 3 rfl ?_;refine W_ret ?_;refine At_cut_ret ?_;obtain rfl := Option.some.inj h;refine At_got4 rfl (.cell rfl underlying73 rfl zr73 (box_ptr (i := 0) hL108 rfl)) (.tmp rfl) (.tmp rfl) (.tmp rfl) ?_;exact ⟨hL108.ext, _, rfl, OwnH.nil⟩
     ·replace h := Go.L.ite_f hg106 h;refine S_guarded rfl rfl hg106 ?_;refine S_v (RunsAt_pu rfl) rfl ?_;refine S_guarded rfl rfl hg106 ?_;refine S_v (RunsAt_pu rfl) rfl ?_;refine S_guarded rfl rfl hg106 ?_;refine S_v (RunsAt_pu rfl) rfl ?_;refine S_split (s := 86) rfl (fun hg110 => ?_) (fun hg110 => ?_)
      ·replace h := Go.L.ite_n (not_dec_t hg110) h;refine S_guarded rfl rfl hg110 ?_;refine S_v (RunsAt_pu rfl) rfl ?_;refine S_guarded rfl rfl hg110 ?_;refine S_v (r_sne rfl rfl) rfl ?_;refine S_guarded rfl rfl hg106 ?_;refine S_v (r_pickT rfl hg110 rfl) rfl ?_;refine S_v (r_pickF rfl hg106 rfl) rfl ?_;refine S_seqnil ?_;refine W_ifn rfl (fun hc112 => ?_) (fun hc112 => ?_)
       ·replace h := Go.L.ite_n hc112 h;refine W_seqr ?_;refine S_v (r_build rfl (fun _ => bld73_z _)) rfl ?_;refine S_storeBN 0 rfl rfl rfl zr73 hL91 rfl rfl (onc rfl (onc rfl (onc rfl (onc rfl on0)))) ?_;intro w114 hL114 hle114;refine S_pz 3 rfl ?_;refine W_ret ?_;refine At_cut_ret ?_;obtain rfl := Option.some.inj h;refine At_got4 rfl (.cell rfl underlying73 rfl zr73 (box_ptr (i := 0) hL114 rfl)) (.tmp rfl) (.tmp rfl) (.tmp rfl) ?_;exact ⟨hL114.ext, _, rfl, OwnH.nil⟩
       ·replace h := Go.L.ite_p hc112 h;refine W_skip ?_;refine At_cut () (.cons rfl (.cons rfl (.cons rfl (.cons rfl (.cons rfl (.cons rfl (.cons rfl (.cons rfl (Sub.nil _))))))))) ⟨hL91, h⟩
      ·replace h := Go.L.ite_p (not_dec_f hg110) h
       iterate 2 refine S_unwanted rfl rfl hg110 rfl ?_
       refine S_guarded rfl rfl hg106 ?_;refine S_v (r_pickF rfl hg110 rfl) rfl ?_;refine S_v (r_pickF rfl hg106 rfl) rfl ?_;refine S_seqnil ?_;refine W_false rfl ?_;refine W_skip ?_;refine At_cut () (.cons rfl (.cons rfl (.cons rfl (.cons rfl (.cons rfl (.cons rfl (.cons rfl (.cons rfl (Sub.nil _))))))))) ⟨hL91, h⟩
    ·rintro _ wr104 ⟨hL104, h⟩;refine W_p 2 rfl ?_;obtain ⟨x118, hb118, h⟩ := Go.L.bind_some h;refine S_callL rfl rfl hL104 (ref4_numberAt_ok _ _ (gz_le hH hL104) (h0_0.mono (gz_left hH)) hb118) ?_;rintro _ w119 rfl hx119 hL119 hle119;refine S_pz 7 rfl ?_;refine W_cut (σ := Unit) (fun (_ : Unit) => [(0, v0_0), (1, .int .i64 x118.2.1), (2, .int .i64 a2), (6, .pointer (some ⟨b1, 0, none⟩)), (10, .string ⟨(x2.1).toArray⟩), (12, .int .i64 x36.1), (13, .int .i64 x62.1), (14, .string ⟨(x90.1).toArray⟩), (15, .int .i64 x118.1)]) (fun (_ : Unit) wr => Lcl w [.box b1 [.string ⟨(([] : List UInt8)).toArray⟩, .int .i64 (0 : Int), .int .i64 (0 : Int), .string ⟨(([] : List UInt8)).toArray⟩] 73] wr ∧ (ref4_leafAt_k5 a0 a2 x118 x2 x36 x62 x90) = some r) ?_ ?_
     ·refine W_p 3 rfl ?_;refine S_split (s := 101) rfl (fun hg133 => ?_) (fun hg133 => ?_)
      ·replace h := Go.L.ite_t hg133 h
       iterate 4 refine S_unwanted rfl rfl hg133 rfl ?_
       refine S_v (r_pickT rfl hg133 rfl) rfl ?_;refine S_seqnil ?_;refine W_true rfl ?_;refine W_seqr ?_;refine S_v (r_build rfl (fun _ => bld73_z _)) rfl ?_;refine S_storeBN 0 rfl rfl rfl zr73 hL119 rfl rfl (onc rfl (onc rfl (onc rfl (onc rfl on0)))) ?_;intro w135 hL135 hle135;refine S_pz 3 rfl ?_;refine W_ret ?_;refine At_cut_ret ?_;obtain rfl := Option.some.inj h;refine At_got4 rfl (.cell rfl underlying73 rfl zr73 (box_ptr (i := 0) hL135 rfl)) (.tmp rfl) (.tmp rfl) (.tmp rfl) ?_;exact ⟨hL135.ext, _, rfl, OwnH.nil⟩
      ·replace h := Go.L.ite_f hg133 h;refine S_guarded rfl rfl hg133 ?_;refine S_v (RunsAt_pu rfl) rfl ?_;refine S_guarded rfl rfl hg133 ?_;refine S_v (RunsAt_pu rfl) rfl ?_;refine S_guarded rfl rfl hg133 ?_;obtain ⟨x137, hb137, h⟩ := Go.L.bind_some h;refine S_callL rfl rfl hL119 (ref3_In_ok _ _ (gz_le hH hL119) hb137) ?_;rintro _ w138 rfl hx138 hL138 hle138;refine S_guarded rfl rfl hg133 ?_;refine S_v (RunsAt_pu rfl) rfl ?_;refine S_v (r_pickF rfl hg133 rfl) rfl ?_;refine S_seqnil ?_;refine W_cond rfl (fun hc139 => ?_) (fun hc139 => ?_)
       ·replace h := Go.L.ite_t hc139 h;refine W_seqr ?_;refine S_v (r_build rfl (fun _ => bld73_z _)) rfl ?_;refine S_storeBN 0 rfl rfl rfl zr73 hL138 rfl rfl (onc rfl (onc rfl (onc rfl (onc rfl on0)))) ?_;intro w141 hL141 hle141;refine S_pz 3 rfl ?_;refine W_ret ?_;refine At_cut_ret ?_;obtain rfl := Option.some.inj h;refine At_got4 rfl (.cell rfl underlying73 rfl zr73 (box_ptr (i := 0) hL141 rfl)) (.tmp rfl) (.tmp rfl) (.tmp rfl) ?_;exact ⟨hL141.ext, _, rfl, OwnH.nil⟩
       ·replace h := Go.L.ite_f hc139 h;refine W_skip ?_;refine At_cut () (.cons rfl (.cons rfl (.cons rfl (.cons rfl (.cons rfl (.cons rfl (.cons rfl (.cons rfl (.cons rfl (Sub.nil _)))))))))) ⟨hL138, h⟩
     ·rintro _ wr131 ⟨hL131, h⟩;refine W_p 1 rfl ?_;obtain ⟨hL144, hle144, he144⟩ := row_nilE (.int .i64) H 3 hL131;refine S_seqnil ?_;refine W_cut (σ := (List Int) × Int × Value × (List Value)) (fun ⟨l219, s1_220, vl219, xsl219⟩ => [(1, .int .i64 s1_220), (6, .pointer (some ⟨b1, 0, none⟩)), (10, .string ⟨(x2.1).toArray⟩), (12, .int .i64 x36.1), (13, .int .i64 x62.1), (14, .string ⟨(x90.1).toArray⟩), (16, vl219)]) (fun ⟨l219, s1_220, vl219, xsl219⟩ wr => InO w [.row (vl219) 3 1 (l219).length (xsl219), .box b1 [.string ⟨(([] : List UInt8)).toArray⟩, .int .i64 (0 : Int), .int .i64 (0 : Int), .string ⟨(([] : List UInt8)).toArray⟩] 73] wr fun Oz => Elems (.int .i64) (gz H w wr Oz) (l219) (xsl219) ∧ (ref4_leafAt_k6 x2 x36 x62 x90) l219 s1_220 = some r) ?_ ?_
      ·refine W_pz 1 rfl ?_;refine W_block ?_;obtain ⟨n261, h⟩ := Go.L.run_some h;refine W_loop (σ := (List Int) × Int × Int × Value × (List Value) × Nat) (fun ⟨l258, s1_259, s17_260, vl258, xsl258, n⟩ => [(0, v0_0), (1, .int .i64 s1_259), (2, .int .i64 a2), (6, .pointer (some ⟨b1, 0, none⟩)), (10, .string ⟨(x2.1).toArray⟩), (12, .int .i64 x36.1), (13, .int .i64 x62.1), (14, .string ⟨(x90.1).toArray⟩), (15, .int .i64 x118.1), (16, vl258), (17, .int .i64 s17_260)]) (fun ⟨l258, s1_259, s17_260, vl258, xsl258, n⟩ wr => InO w [.row (vl258) 3 1 (l258).length (xsl258), .box b1 [.string ⟨(([] : List UInt8)).toArray⟩, .int .i64 (0 : Int), .int .i64 (0 : Int), .string ⟨(([] : List UInt8)).toArray⟩] 73] wr fun Oz => Elems (.int .i64) (gz H w wr Oz) (l258) (xsl258) ∧ Go.L.itr (ref4_leafAt_bl7 a0 a2 x118 x2 x36 x62 x90) n (l258, s1_259, s17_260) = some r) (fun ⟨l258, s1_259, s17_260, vl258, xsl258, n⟩ => n) (([] : List Int), x118.2.1, (0 : Int), .slice none 0 0, [], n261) (.cons rfl (.cons rfl (.cons rfl (.cons rfl (.cons rfl (.cons rfl (.cons rfl (.cons rfl (.cons rfl (.cons rfl (.cons rfl (Sub.nil _)))))))))))) ⟨hL144, he144, h⟩ ?_;rintro ⟨l258, s1_259, s17_260, vl258, xsl258, nn261⟩ wr261 ⟨hL261, hel258, h⟩;obtain ⟨n261, e261, rfl, h, hm261⟩ := Go.L.itr_some h;refine W_seq ?_;refine W_pz 3 rfl ?_;refine W_if rfl (fun hc263 => ?_) (fun hc263 => ?_)
       ·replace h := Go.L.ite_p hc263 h;refine W_skip ?_;refine At_seq ?_;refine W_seq ?_;refine W_block ?_;refine W_p 2 rfl ?_;obtain ⟨x265, hb265, h⟩ := Go.L.bind_some h;refine S_callL rfl rfl hL261 (ref4_numberAt_ok _ _ (gz_le hH hL261) (h0_0.mono (gz_left hH)) hb265) ?_;rintro _ w266 rfl hx266 hL266 hle266;replace hel258 := hel258.mono (gz_mono hH hle266);refine S_pz 7 rfl ?_;refine W_seq ?_;refine W_p 3 rfl ?_;refine S_split (s := 122) rfl (fun hg267 => ?_) (fun hg267 => ?_)
        ·replace h := Go.L.ite_t hg267 h
         iterate 5 refine S_unwanted rfl rfl hg267 rfl ?_
         refine S_v (r_pickT rfl hg267 rfl) rfl ?_;refine S_pu 1 rfl ?_
         iterate 3 refine S_unwanted rfl rfl rfl rfl ?_
         iterate 7 refine S_unwanted2 rfl rfl rfl ?_
         refine S_unwanted rfl rfl rfl rfl ?_;refine S_v (r_pickT rfl rfl rfl) rfl ?_;refine S_seqnil ?_;refine W_true rfl ?_;refine W_seqr ?_;refine S_v (r_build rfl (fun _ => bld73_z _)) rfl ?_;refine S_storeBN 1 rfl rfl rfl zr73 hL266 rfl rfl (onc rfl (onc rfl (onc rfl (onc rfl on0)))) ?_;intro w269 hL269 hle269;replace hel258 := hel258.mono (gz_mono hH hle269);refine S_pz 3 rfl ?_;refine W_ret ?_;refine At_seq_ret ?_;refine At_block_ret ?_;refine At_seq_ret ?_;refine At_loop_ret ?_;replace h := Go.L.Nxt.out h hm261;refine At_block_ret ?_;refine At_cut_ret ?_;obtain rfl := Option.some.inj h;refine At_got4 rfl (.cell rfl underlying73 rfl zr73 (box_ptr (i := 1) hL269 rfl)) (.tmp rfl) (.tmp rfl) (.tmp rfl) ?_;exact ⟨hL269.ext, _, rfl, OwnH.nil⟩
        ·replace h := Go.L.ite_f hg267 h;refine S_guarded rfl rfl hg267 ?_;refine S_v (RunsAt_pu rfl) rfl ?_;refine S_guarded rfl rfl hg267 ?_;refine S_v (RunsAt_pu rfl) rfl ?_;refine S_guarded rfl rfl hg267 ?_;obtain ⟨hk271, h⟩ := Go.L.chk_some h;refine S_v (r_ar64 rfl rfl rfl hk271) rfl ?_;refine S_guarded rfl rfl hg267 ?_;obtain ⟨x272, hb272, h⟩ := Go.L.bind_some h;refine S_callL rfl rfl hL266 (ref3_In_ok _ _ (gz_le hH hL266) hb272) ?_;rintro _ w273 rfl hx273 hL273 hle273;replace hel258 := hel258.mono (gz_mono hH hle273);refine S_guarded rfl rfl hg267 ?_;refine S_v (RunsAt_pu rfl) rfl ?_;refine S_v (r_pickF rfl hg267 rfl) rfl ?_;refine S_pu 1 rfl ?_;refine S_split (s := 129) rfl (fun hg274 => ?_) (fun hg274 => ?_)
         ·replace h := Go.L.ite_t hg274 h
          iterate 3 refine S_unwanted rfl rfl hg274 rfl ?_
          iterate 7 refine S_unwanted2 rfl rfl rfl ?_
          refine S_unwanted rfl rfl hg274 rfl ?_;refine S_v (r_pickT rfl hg274 rfl) rfl ?_;refine S_seqnil ?_;refine W_true rfl ?_;refine W_seqr ?_;refine S_v (r_build rfl (fun _ => bld73_z _)) rfl ?_;refine S_storeBN 1 rfl rfl rfl zr73 hL273 rfl rfl (onc rfl (onc rfl (onc rfl (onc rfl on0)))) ?_;intro w276 hL276 hle276;replace hel258 := hel258.mono (gz_mono hH hle276);refine S_pz 3 rfl ?_;refine W_ret ?_;refine At_seq_ret ?_;refine At_block_ret ?_;refine At_seq_ret ?_;refine At_loop_ret ?_;replace h := Go.L.Nxt.out h hm261;refine At_block_ret ?_;refine At_cut_ret ?_;obtain rfl := Option.some.inj h;refine At_got4 rfl (.cell rfl underlying73 rfl zr73 (box_ptr (i := 1) hL276 rfl)) (.tmp rfl) (.tmp rfl) (.tmp rfl) ?_;exact ⟨hL276.ext, _, rfl, OwnH.nil⟩
         ·replace h := Go.L.ite_f hg274 h;refine S_guarded rfl rfl hg274 ?_;refine S_v (RunsAt_pu rfl) rfl ?_;refine S_guarded rfl rfl hg274 ?_;refine S_v (RunsAt_pu rfl) rfl ?_;refine S_guarded rfl rfl hg274 ?_;refine S_v (RunsAt_pu rfl) rfl ?_;refine S_split (s := 132) rfl (fun hg278 => ?_) (fun hg278 => ?_)
          ·replace h := Go.L.ite_p (of_decide_eq_true hg278) h;refine S_guarded rfl rfl hg278 ?_;refine S_v (RunsAt_pu rfl) rfl ?_;refine S_guarded rfl rfl hg278 ?_;refine S_v (RunsAt_pu rfl) rfl ?_;refine S_guarded rfl rfl hg278 ?_;refine S_v (RunsAt_pu rfl) rfl ?_;refine S_guarded rfl rfl hg278 ?_;obtain ⟨hk280, h⟩ := Go.L.chk_some h;refine S_v (r_ar64 rfl rfl rfl hk280) rfl ?_;refine S_guarded rfl rfl hg278 ?_;obtain ⟨hk282, h⟩ := Go.L.chk_some h;refine S_index rfl rfl underlying52 zr3 (hL273.vecN hH (i := 0) rfl hel258) ((s17_260 - (1 : Int)).toNat) (Int.toNat_of_nonneg hk282.1).symm (idx_lt hk282) rfl ?_;rintro p281 _ rfl hp281;refine S_guarded rfl rfl hg278 ?_;refine S_v (r_load1 rfl underlying3 rfl hp281 (Le.refl _)) rfl ?_;refine S_guarded rfl rfl hg278 ?_;refine S_v (RunsAt_pu rfl) rfl ?_;refine S_guarded rfl rfl hg274 ?_;refine S_v (r_pickT rfl hg278 rfl) rfl ?_;refine S_v (r_pickF rfl hg274 rfl) rfl ?_;refine S_seqnil ?_;refine W_if rfl (fun hc283 => ?_) (fun hc283 => ?_)
           ·replace h := Go.L.ite_p hc283 h;refine W_seqr ?_;refine S_v (r_build rfl (fun _ => bld73_z _)) rfl ?_;refine S_storeBN 1 rfl rfl rfl zr73 hL273 rfl rfl (onc rfl (onc rfl (onc rfl (onc rfl on0)))) ?_;intro w285 hL285 hle285;replace hel258 := hel258.mono (gz_mono hH hle285);refine S_pz 3 rfl ?_;refine W_ret ?_;refine At_seq_ret ?_;refine At_block_ret ?_;refine At_seq_ret ?_;refine At_loop_ret ?_;replace h := Go.L.Nxt.out h hm261;refine At_block_ret ?_;refine At_cut_ret ?_;obtain rfl := Option.some.inj h;refine At_got4 rfl (.cell rfl underlying73 rfl zr73 (box_ptr (i := 1) hL285 rfl)) (.tmp rfl) (.tmp rfl) (.tmp rfl) ?_;exact ⟨hL285.ext, _, rfl, OwnH.nil⟩
           ·replace h := Go.L.ite_n hc283 h;refine W_skip ?_;refine At_seq ?_;refine W_p 2 rfl ?_;refine S_litE (r := (.int .i64)) (l := [x265.1]) rfl (fun _ => bsl52_1 _ _) rfl (show 1 ≤ 9223372036854775807 by decide) hH hL273 (.c1 rfl .nil) ?_;intro v287 w287 hx287 hL287 hle287 hv287;replace hel258 := hel258.mono (gz_mono hH hle287);obtain ⟨hk289, h⟩ := Go.L.chk_some h;refine S_appE (r := (.int .i64)) (l := l258) (m := [x265.1]) 0 rfl rfl underlying52 zr3 rfl (by decide) rfl hH hL287 rfl hel258 hv287 hk289 ?_;intro v288 w288 xs288 hL288 hle288 he288;replace hv287 := hv287.mono (gz_mono hH hle288);refine S_pz 1 rfl ?_;refine W_region ?_;refine S_pu 2 rfl ?_;refine S_nil ?_;refine At_block ?_;refine At_seq ?_;refine W_region ?_;refine S_pu 1 rfl ?_;obtain ⟨hk290, h⟩ := Go.L.chk_some h;refine S_v (r_ar64 rfl rfl rfl hk290) rfl ?_;refine S_pu 1 rfl ?_;refine S_nil ?_;have h := Go.L.Nxt.again h hm261;refine At_round ((l258 ++ [x265.1]), x265.2.1, (s17_260 + (1 : Int)), v288, xs288, n261) (.cons rfl (.cons rfl (.cons rfl (.cons rfl (.cons rfl (.cons rfl (.cons rfl (.cons rfl (.cons rfl (.cons rfl (.cons rfl (Sub.nil _)))))))))))) ⟨hL288, he288, h⟩ (Nat.lt_succ_self _)
          ·replace h := Go.L.ite_n (of_decide_eq_false hg278) h
           iterate 7 refine S_unwanted rfl rfl hg278 rfl ?_
           refine S_guarded rfl rfl hg274 ?_;refine S_v (r_pickF rfl hg278 rfl) rfl ?_;refine S_v (r_pickF rfl hg274 rfl) rfl ?_;refine S_seqnil ?_;refine W_false rfl ?_;refine W_skip ?_;refine At_seq ?_;refine W_p 2 rfl ?_;refine S_litE (r := (.int .i64)) (l := [x265.1]) rfl (fun _ => bsl52_1 _ _) rfl (show 1 ≤ 9223372036854775807 by decide) hH hL273 (.c1 rfl .nil) ?_;intro v292 w292 hx292 hL292 hle292 hv292;replace hel258 := hel258.mono (gz_mono hH hle292);obtain ⟨hk294, h⟩ := Go.L.chk_some h;refine S_appE (r := (.int .i64)) (l := l258) (m := [x265.1]) 0 rfl rfl underlying52 zr3 rfl (by decide) rfl hH hL292 rfl hel258 hv292 hk294 ?_;intro v293 w293 xs293 hL293 hle293 he293;replace hv292 := hv292.mono (gz_mono hH hle293);refine S_pz 1 rfl ?_;refine W_region ?_;refine S_pu 2 rfl ?_;refine S_nil ?_;refine At_block ?_;refine At_seq ?_;refine W_region ?_;refine S_pu 1 rfl ?_;obtain ⟨hk295, h⟩ := Go.L.chk_some h;refine S_v (r_ar64 rfl rfl rfl hk295) rfl ?_;refine S_pu 1 rfl ?_;refine S_nil ?_;have h := Go.L.Nxt.again h hm261;refine At_round ((l258 ++ [x265.1]), x265.2.1, (s17_260 + (1 : Int)), v293, xs293, n261) (.cons rfl (.cons rfl (.cons rfl (.cons rfl (.cons rfl (.cons rfl (.cons rfl (.cons rfl (.cons rfl (.cons rfl (.cons rfl (Sub.nil _)))))))))))) ⟨hL293, he293, h⟩ (Nat.lt_succ_self _)
       ·replace h := Go.L.ite_n hc263 h;refine W_exit ?_;refine At_seq_exit ?_;refine At_loop_exit ?_;replace h := Go.L.Nxt.out h hm261;refine At_exit ?_;refine At_cut (l258, s1_259, vl258, xsl258) (.cons rfl (.cons rfl (.cons rfl (.cons rfl (.cons rfl (.cons rfl (.cons rfl (Sub.nil _)))))))) ⟨hL261, hel258, h⟩
      ·rintro ⟨l219, s1_220, vl219, xsl219⟩ wr221 ⟨hL221, hel219, h⟩;refine W_p 4 rfl ?_;refine S_v (r_build rfl (fun _ => bld73_0_1_2_3 _ rfl _ _ _ rfl _)) rfl ?_;refine S_pu 2 rfl ?_;refine S_storeBN 1 rfl rfl rfl zr73 hL221 rfl rfl (onc rfl (onc rfl (onc rfl (onc rfl on0)))) ?_;intro w298 hL298 hle298;replace hel219 := hel219.mono (gz_mono hH hle298);refine S_pz 3 rfl ?_;refine W_ret ?_;obtain rfl := Option.some.inj h;refine At_got4 rfl (.cell rfl underlying73 rfl zr73 (box_ptr (i := 1) hL298 rfl)) (.tmp rfl) (.tmp rfl) (.tmp rfl) ?_;exact ⟨hL298.ext, _, rfl, (hL298.ownH hH (i := 0) rfl hel219)⟩
noncomputable def ref4_ShapesIndex_k1 (a0 : List UInt8) (x1 : Int × Int × Bool) (l71 : List (List Int)) (l72 : List ((List UInt8) × Int × Int × (List UInt8))) (s7_73 : Int) : Option (Int × (List ((List UInt8) × Int × Int × (List UInt8))) × (List (List Int)) × Bool) :=
 some (x1.1, l72, l71, decide (s7_73 = (a0.length : Int)))
noncomputable def ref4_ShapesIndex_bl2 (a0 : List UInt8) (x1 : Int × Int × Bool) (x11 : Int × Int × Bool) : (List (List Int)) × (List ((List UInt8) × Int × Int × (List UInt8))) × Int × Int → Option (((List (List Int)) × (List ((List UInt8) × Int × Int × (List UInt8))) × Int × Int) ⊕ (Int × (List ((List UInt8) × Int × Int × (List UInt8))) × (List (List Int)) × Bool)) := fun ⟨l121, l122, s7_123, s12_124⟩ =>
 if s12_124 < x11.1 then Option.bind (ref4_leafAt a0 s7_123 x1.1) (fun x129 => if !x129.2.2.2 then Option.map Sum.inr (some ((0 : Int), [], [], false)) else if (0 : Int) < s12_124 then Go.L.chk (Go.L.I64 (s12_124 - (1 : Int))) (Go.L.chk (0 ≤ (s12_124 - (1 : Int)) ∧ (s12_124 - (1 : Int)) < (l122.length : Int)) (Option.bind (ref4_Before ((l122.getD ((s12_124 - (1 : Int)).toNat) default).1, (l122.getD ((s12_124 - (1 : Int)).toNat) default).2.1, (l122.getD ((s12_124 - (1 : Int)).toNat) default).2.2.1, (l122.getD ((s12_124 - (1 : Int)).toNat) default).2.2.2) (x129.1.1, x129.1.2.1, x129.1.2.2.1, x129.1.2.2.2)) (fun x146 => if !x146 then Option.map Sum.inr (some ((0 : Int), [], [], false)) else Go.L.chk (Go.E.Cap 48 (l122.length + ([(x129.1.1, x129.1.2.1, x129.1.2.2.1, x129.1.2.2.2)]).length)) (Go.L.chk (Go.E.Cap 24 (l121.length + ([x129.2.1]).length)) (Go.L.chk (Go.L.I64 (s12_124 + (1 : Int))) (some (Sum.inl ((l121 ++ [x129.2.1]), (l122 ++ [(x129.1.1, x129.1.2.1, x129.1.2.2.1, x129.1.2.2.2)]), x129.2.2.1, (s12_124 + (1 : Int)))))))))) else Go.L.chk (Go.E.Cap 48 (l122.length + ([(x129.1.1, x129.1.2.1, x129.1.2.2.1, x129.1.2.2.2)]).length)) (Go.L.chk (Go.E.Cap 24 (l121.length + ([x129.2.1]).length)) (Go.L.chk (Go.L.I64 (s12_124 + (1 : Int))) (some (Sum.inl ((l121 ++ [x129.2.1]), (l122 ++ [(x129.1.1, x129.1.2.1, x129.1.2.2.1, x129.1.2.2.2)]), x129.2.2.1, (s12_124 + (1 : Int)))))))) else Option.map Sum.inr ((ref4_ShapesIndex_k1 a0 x1) l121 l122 s7_123)
noncomputable def ref4_ShapesIndex_l2 (a0 : List UInt8) (x1 : Int × Int × Bool) (x11 : Int × Int × Bool) (s : (List (List Int)) × (List ((List UInt8) × Int × Int × (List UInt8))) × Int × Int) : Option (Int × (List ((List UInt8) × Int × Int × (List UInt8))) × (List (List Int)) × Bool) := Go.L.run (ref4_ShapesIndex_bl2 a0 x1 x11) s
noncomputable def ref4_ShapesIndex (a0 : List UInt8) : Option (Int × (List ((List UInt8) × Int × Int × (List UInt8))) × (List (List Int)) × Bool) :=
 Option.bind (ref4_numberAt a0 (0 : Int)) (fun x1 => if !x1.2.2 then some ((0 : Int), [], [], false) else Option.bind (ref3_In x1.1 (0 : Int) (64 : Int)) (fun x6 => if !x6 then some ((0 : Int), [], [], false) else Option.bind (ref4_numberAt a0 x1.2.1) (fun x11 => if !x11.2.2 then some ((0 : Int), [], [], false) else Option.bind (ref3_In x11.1 (0 : Int) (a0.length : Int)) (fun x16 => if !x16 then some ((0 : Int), [], [], false) else (ref4_ShapesIndex_l2 a0 x1 x11) (([] : List (List Int)), ([] : List ((List UInt8) × Int × Int × (List UInt8))), x11.2.1, (0 : Int))))))
theorem ref4_ShapesIndex_ok (w : World) (H : PH) (hH : Le H (hp w)) {a0 : List UInt8} {v0_0 : Value} (h0_0 : Vec .byte H v0_0 (a0)) {r : Int × (List ((List UInt8) × Int × Int × (List UInt8))) × (List (List Int)) × Bool} (h : ref4_ShapesIndex a0 = some r) :
  Ok Tryz.prog 39 [v0_0] w (fun v w' => Ext w w' ∧ ∃ u0 u1, v = .tuple #[.int .i64 r.1, u0, u1, .bool r.2.2.2] ∧ OwnH 73 (.pair .st (.pair (.int .i64) (.pair (.int .i64) .st))) H w w' u0 (r.2.1) ∧ OwnH 52 (.vec (.int .i64)) H w w' u1 (r.2.2.1)) := by
 refine Ok_enter (n := 92) [(0, v0_0)] func39 rfl rfl rfl rfl rfl ?_;have hL := Lcl.start w;refine W_pz 4 rfl ?_;refine W_p 1 rfl ?_;obtain ⟨x1, hb1, h⟩ := Go.L.bind_some h;refine S_callL rfl rfl hL (ref4_numberAt_ok _ _ (gz_le hH hL) (h0_0.mono (gz_left hH)) hb1) ?_;rintro _ w2 rfl hx2 hL2 hle2;refine S_pz 7 rfl ?_;refine W_seq ?_;refine W_p 3 rfl ?_;refine S_split (s := 25) rfl (fun hg3 => ?_) (fun hg3 => ?_)
 ·replace h := Go.L.ite_t hg3 h
  iterate 3 refine S_unwanted rfl rfl hg3 rfl ?_
  refine S_v (r_pickT rfl hg3 rfl) rfl ?_;refine S_seqnil ?_;refine W_true rfl ?_;refine W_pz 4 rfl ?_;refine W_ret ?_;refine At_seq_ret ?_;obtain rfl := Option.some.inj h;refine At_got4 rfl (.tmp rfl) (.tmp rfl) (.tmp rfl) (.tmp rfl) ?_;exact ⟨hL2.ext, _, _, rfl, OwnH.nil, OwnH.nil⟩
 ·replace h := Go.L.ite_f hg3 h;refine S_guarded rfl rfl hg3 ?_;refine S_v (RunsAt_pu rfl) rfl ?_;refine S_guarded rfl rfl hg3 ?_;obtain ⟨x6, hb6, h⟩ := Go.L.bind_some h;refine S_callL rfl rfl hL2 (ref3_In_ok _ _ (gz_le hH hL2) hb6) ?_;rintro _ w7 rfl hx7 hL7 hle7;refine S_guarded rfl rfl hg3 ?_;refine S_v (RunsAt_pu rfl) rfl ?_;refine S_v (r_pickF rfl hg3 rfl) rfl ?_;refine S_seqnil ?_;refine W_cond rfl (fun hc8 => ?_) (fun hc8 => ?_)
  ·replace h := Go.L.ite_t hc8 h;refine W_pz 4 rfl ?_;refine W_ret ?_;refine At_seq_ret ?_;obtain rfl := Option.some.inj h;refine At_got4 rfl (.tmp rfl) (.tmp rfl) (.tmp rfl) (.tmp rfl) ?_;exact ⟨hL7.ext, _, _, rfl, OwnH.nil, OwnH.nil⟩
  ·replace h := Go.L.ite_f hc8 h;refine W_skip ?_;refine At_seq ?_;refine W_p 2 rfl ?_;obtain ⟨x11, hb11, h⟩ := Go.L.bind_some h;refine S_callL rfl rfl hL7 (ref4_numberAt_ok _ _ (gz_le hH hL7) (h0_0.mono (gz_left hH)) hb11) ?_;rintro _ w12 rfl hx12 hL12 hle12;refine S_pz 7 rfl ?_;refine W_seq ?_;refine W_p 3 rfl ?_;refine S_split (s := 39) rfl (fun hg13 => ?_) (fun hg13 => ?_)
   ·replace h := Go.L.ite_t hg13 h
    iterate 5 refine S_unwanted rfl rfl hg13 rfl ?_
    refine S_v (r_pickT rfl hg13 rfl) rfl ?_;refine S_seqnil ?_;refine W_true rfl ?_;refine W_pz 4 rfl ?_;refine W_ret ?_;refine At_seq_ret ?_;obtain rfl := Option.some.inj h;refine At_got4 rfl (.tmp rfl) (.tmp rfl) (.tmp rfl) (.tmp rfl) ?_;exact ⟨hL12.ext, _, _, rfl, OwnH.nil, OwnH.nil⟩
   ·replace h := Go.L.ite_f hg13 h;refine S_guarded rfl rfl hg13 ?_;refine S_v (RunsAt_pu rfl) rfl ?_;refine S_guarded rfl rfl hg13 ?_;refine S_v (RunsAt_pu rfl) rfl ?_;refine S_guarded rfl rfl hg13 ?_;refine S_v (r_len rfl underlying35 h0_0) rfl ?_;refine S_guarded rfl rfl hg13 ?_;obtain ⟨x16, hb16, h⟩ := Go.L.bind_some h;refine S_callL rfl rfl hL12 (ref3_In_ok _ _ (gz_le hH hL12) hb16) ?_;rintro _ w17 rfl hx17 hL17 hle17;refine S_guarded rfl rfl hg13 ?_;refine S_v (RunsAt_pu rfl) rfl ?_;refine S_v (r_pickF rfl hg13 rfl) rfl ?_;refine S_seqnil ?_;refine W_cond rfl (fun hc18 => ?_) (fun hc18 => ?_)
    ·replace h := Go.L.ite_t hc18 h;refine W_pz 4 rfl ?_;refine W_ret ?_;refine At_seq_ret ?_;obtain rfl := Option.some.inj h;refine At_got4 rfl (.tmp rfl) (.tmp rfl) (.tmp rfl) (.tmp rfl) ?_;exact ⟨hL17.ext, _, _, rfl, OwnH.nil, OwnH.nil⟩
    ·replace h := Go.L.ite_f hc18 h;refine W_skip ?_;refine At_seq ?_;refine W_p 1 rfl ?_;obtain ⟨hL21, hle21, he21⟩ := row_nilE (.pair .st (.pair (.int .i64) (.pair (.int .i64) .st))) H 73 hL17;refine S_seqnil ?_;refine W_p 1 rfl ?_;obtain ⟨hL22, hle22, he22⟩ := row_nilE (.vec (.int .i64)) H 52 hL21;replace he21 := he21.mono (gz_mono hH hle22);refine S_seqnil ?_;refine W_cut (σ := (List (List Int)) × (List ((List UInt8) × Int × Int × (List UInt8))) × Int × Value × (List Value) × Value × (List Value)) (fun ⟨l71, l72, s7_73, vl71, xsl71, vl72, xsl72⟩ => [(0, v0_0), (6, .int .i64 x1.1), (7, .int .i64 s7_73), (10, vl72), (11, vl71)]) (fun ⟨l71, l72, s7_73, vl71, xsl71, vl72, xsl72⟩ wr => InO w [.row (vl71) 52 1 (l71).length (xsl71), .row (vl72) 73 4 (l72).length (xsl72)] wr fun Oz => Elems (.vec (.int .i64)) (gz H w wr Oz) (l71) (xsl71) ∧ Elems (.pair .st (.pair (.int .i64) (.pair (.int .i64) .st))) (gz H w wr Oz) (l72) (xsl72) ∧ (ref4_ShapesIndex_k1 a0 x1) l71 l72 s7_73 = some r) ?_ ?_
     ·refine W_pz 1 rfl ?_;refine W_block ?_;obtain ⟨n125, h⟩ := Go.L.run_some h;refine W_loop (σ := (List (List Int)) × (List ((List UInt8) × Int × Int × (List UInt8))) × Int × Int × Value × (List Value) × Value × (List Value) × Nat) (fun ⟨l121, l122, s7_123, s12_124, vl121, xsl121, vl122, xsl122, n⟩ => [(0, v0_0), (6, .int .i64 x1.1), (7, .int .i64 s7_123), (9, .int .i64 x11.1), (10, vl122), (11, vl121), (12, .int .i64 s12_124)]) (fun ⟨l121, l122, s7_123, s12_124, vl121, xsl121, vl122, xsl122, n⟩ wr => InO w [.row (vl121) 52 1 (l121).length (xsl121), .row (vl122) 73 4 (l122).length (xsl122)] wr fun Oz => Elems (.vec (.int .i64)) (gz H w wr Oz) (l121) (xsl121) ∧ Elems (.pair .st (.pair (.int .i64) (.pair (.int .i64) .st))) (gz H w wr Oz) (l122) (xsl122) ∧ Go.L.itr (ref4_ShapesIndex_bl2 a0 x1 x11) n (l121, l122, s7_123, s12_124) = some r) (fun ⟨l121, l122, s7_123, s12_124, vl121, xsl121, vl122, xsl122, n⟩ => n) (([] : List (List Int)), ([] : List ((List UInt8) × Int × Int × (List UInt8))), x11.2.1, (0 : Int), .slice none 0 0, [], .slice none 0 0, [], n125) (.cons rfl (.cons rfl (.cons rfl (.cons rfl (.cons rfl (.cons rfl (.cons rfl (Sub.nil _)))))))) ⟨hL22, he22, he21, h⟩ ?_;rintro ⟨l121, l122, s7_123, s12_124, vl121, xsl121, vl122, xsl122, nn125⟩ wr125 ⟨hL125, hel121, hel122, h⟩;obtain ⟨n125, e125, rfl, h, hm125⟩ := Go.L.itr_some h;refine W_seq ?_;refine W_pz 3 rfl ?_;refine W_if rfl (fun hc127 => ?_) (fun hc127 => ?_)
      ·replace h := Go.L.ite_p hc127 h;refine W_skip ?_;refine At_seq ?_;refine W_seq ?_;refine W_block ?_;refine W_p 3 rfl ?_;obtain ⟨x129, hb129, h⟩ := Go.L.bind_some h;refine S_callL rfl rfl hL125 (ref4_leafAt_ok _ _ (gz_le hH hL125) (h0_0.mono (gz_left hH)) hb129) ?_;rintro _ w130 ⟨u130_0, rfl, hR130_0⟩ hx130 hL130 hle130;have hv130_0 := hR130_0.vecG hH hL125 hx130;replace hel121 := hel121.mono (gz_mono hH hle130);replace hel122 := hel122.mono (gz_mono hH hle130);refine S_pu 5 rfl ?_;refine S_alloc zr73 rfl rfl hL130 ?_;intro w131 b131 hL131 hle131 _;replace hel121 := hel121.mono (gz_mono hH hle131);replace hel122 := hel122.mono (gz_mono hH hle131);replace hv130_0 := hv130_0.mono (gz_mono hH hle131);refine S_storeBN 0 rfl rfl rfl zr73 hL131 rfl rfl (onc rfl (onc rfl (onc rfl (onc rfl on0)))) ?_;intro w132 hL132 hle132;replace hel121 := hel121.mono (gz_mono hH hle132);replace hel122 := hel122.mono (gz_mono hH hle132);replace hv130_0 := hv130_0.mono (gz_mono hH hle132);refine S_pz 3 rfl ?_;refine W_seq ?_;have hG133 := hL132.rG H;refine W_seqd (.q 0 (.q 1 (.q 2 (.q 3 (.q 4 (.q 5 (.q 6 (.q 7 (.q 8 (.q 9 (.q 10 (.q 11 (.q 12 (.q 13 (.q 14 (.q 15 (.tail 16))))))))))))))))) mixed (by kernel_rfl) (fun w134 hx134 => ?_);have hL135 := hL132.call hx134;have hle135 := fz_ext hL132 hx134;replace hG133 := hG133.trans (gz_mono hH hle135);refine D_pu 3 rfl ?_;refine D_split (s := 62) rfl (fun hg136 => ?_) (fun hg136 => ?_)
       ·replace h := Go.L.ite_t hg136 h
        iterate 3 refine D_no rfl rfl rfl rfl hg136 rfl ?_
        iterate 8 refine D_no2 rfl rfl rfl rfl rfl ?_
        refine D_no rfl rfl rfl rfl hg136 rfl ?_;refine D_v (r_pickT rfl hg136 rfl) rfl rfl ?_;refine D_tail (fun w138 hx138 => ?_);have hL139 := hL135.call hx138;have hle139 := fz_ext hL135 hx138;replace hG133 := hG133.trans (gz_mono hH hle139);refine S_seqnil ?_;refine W_true rfl ?_;refine W_pz 4 rfl ?_;refine W_ret ?_;refine At_seq_ret ?_;refine At_block_ret ?_;refine At_seq_ret ?_;refine At_loop_ret ?_;replace h := Go.L.Nxt.out h hm125;refine At_block_ret ?_;refine At_cut_ret ?_;obtain rfl := Option.some.inj h;refine At_got4 rfl (.tmp rfl) (.tmp rfl) (.tmp rfl) (.tmp rfl) ?_;exact ⟨hL139.ext, _, _, rfl, OwnH.nil, OwnH.nil⟩
       ·replace h := Go.L.ite_f hg136 h
        iterate 3 refine D_vg (RunsAt_pu rfl) rfl rfl rfl rfl hg136 rfl ?_
        refine D_split (s := 65) rfl (fun hg141 => ?_) (fun hg141 => ?_)
        ·replace h := Go.L.ite_p (of_decide_eq_true hg141) h
         iterate 2 refine D_vg (RunsAt_pu rfl) rfl rfl rfl rfl hg141 rfl ?_
         obtain ⟨hk143, h⟩ := Go.L.chk_some h;refine D_vg (r_ar64 rfl rfl rfl hk143) rfl rfl rfl rfl hg141 rfl ?_;obtain ⟨hk145, h⟩ := Go.L.chk_some h;refine D_indexg rfl rfl rfl rfl hg141 rfl rfl underlying67 zr73 (hL135.vecN hH (i := 2) rfl (hel122.mono hG133)) ((s12_124 - (1 : Int)).toNat) (Int.toNat_of_nonneg hk145.1).symm (idx_lt hk145) rfl ?_;rintro p144 _ ⟨_, _, rfl, rfl, ⟨_, _, rfl, rfl, ⟨_, _, rfl, rfl, rfl⟩⟩⟩ hp144;refine D_vg (r_loadN rfl underlying73 rfl zr73 hp144 (Le.refl _)) rfl rfl rfl rfl hg141 rfl ?_;refine D_vg (r_loadBN 0 rfl underlying73 rfl zr73 hL135 rfl) rfl rfl rfl rfl hg141 rfl ?_;obtain ⟨x146, hb146, h⟩ := Go.L.bind_some h;have hok147 := (fun (w147 : World) (hx147 : Ext w134 w147) => ref4_Before_ok w147 _ (Le.refl _) hb146);refine D_callg rfl rfl rfl rfl hg141 rfl rfl hok147 ?_;refine D_vg (RunsAt_pu rfl) rfl rfl rfl rfl hg141 rfl ?_;refine D_vg (r_pickT rfl hg141 rfl) rfl rfl rfl rfl hg136 rfl ?_;refine D_v (r_pickF rfl hg136 rfl) rfl rfl ?_;refine D_tail (fun w148 hx148 => ?_);have hL149 := hL135.call hx148;have hle149 := fz_ext hL135 hx148;replace hG133 := hG133.trans (gz_mono hH hle149);refine S_seqnil ?_;refine W_cond rfl (fun hc150 => ?_) (fun hc150 => ?_)
         ·replace h := Go.L.ite_t hc150 h;refine W_pz 4 rfl ?_;refine W_ret ?_;refine At_seq_ret ?_;refine At_block_ret ?_;refine At_seq_ret ?_;refine At_loop_ret ?_;replace h := Go.L.Nxt.out h hm125;refine At_block_ret ?_;refine At_cut_ret ?_;obtain rfl := Option.some.inj h;refine At_got4 rfl (.tmp rfl) (.tmp rfl) (.tmp rfl) (.tmp rfl) ?_;exact ⟨hL149.ext, _, _, rfl, OwnH.nil, OwnH.nil⟩
         ·replace h := Go.L.ite_f hc150 h;refine W_skip ?_;refine At_seq ?_;refine W_p 1 rfl ?_;refine S_v (r_loadBN 0 rfl underlying73 rfl zr73 hL149 rfl) rfl ?_;refine S_litE (r := (.pair .st (.pair (.int .i64) (.pair (.int .i64) .st)))) (l := [(x129.1.1, x129.1.2.1, x129.1.2.2.1, x129.1.2.2.2)]) rfl (fun _ => bsl67_1 _ _ _ _ _) rfl (show 1 ≤ 9223372036854775807 by decide) hH hL149 (.c4 ⟨_, _, rfl, rfl, ⟨_, _, rfl, rfl, ⟨_, _, rfl, rfl, rfl⟩⟩⟩ .nil) ?_;intro v153 w153 hx153 hL153 hle153 hv153;replace hG133 := hG133.trans (gz_mono hH hle153);obtain ⟨hk155, h⟩ := Go.L.chk_some h;refine S_appE (r := (.pair .st (.pair (.int .i64) (.pair (.int .i64) .st)))) (l := l122) (m := [(x129.1.1, x129.1.2.1, x129.1.2.2.1, x129.1.2.2.2)]) 2 rfl rfl underlying67 zr73 rfl (by decide) rfl hH hL153 rfl (hel122.mono hG133) hv153 hk155 ?_;intro v154 w154 xs154 hL154 hle154 he154;replace hv153 := hv153.mono (gz_mono hH hle154);replace hG133 := hG133.trans (gz_mono hH hle154);refine S_pz 1 rfl ?_;refine W_p 2 rfl ?_;refine S_litE (r := (.vec (.int .i64))) (l := [x129.2.1]) rfl (fun _ => bsl68_1 _ (hv130_0.mono hG133).one _) rfl (show 1 ≤ 9223372036854775807 by decide) hH hL154 (.c1 ⟨_, rfl, (hv130_0.mono hG133)⟩ .nil) ?_;intro v156 w156 hx156 hL156 hle156 hv156;replace he154 := he154.mono (gz_mono hH hle156);replace hG133 := hG133.trans (gz_mono hH hle156);obtain ⟨hk158, h⟩ := Go.L.chk_some h
          refine S_appE (r := (.vec (.int .i64))) (l := l121) (m := [x129.2.1]) 1 rfl rfl underlying68 zr52 rfl (by decide) rfl hH hL156 rfl (hel121.mono hG133) hv156 hk158 ?_;intro v157 w157 xs157 hL157 hle157 he157;replace he154 := he154.mono (gz_mono hH hle157);replace hv156 := hv156.mono (gz_mono hH hle157);replace hG133 := hG133.trans (gz_mono hH hle157);refine S_pz 1 rfl ?_;refine W_region ?_;refine S_pu 2 rfl ?_;refine S_nil ?_;refine At_block ?_;refine At_seq ?_;refine W_region ?_;refine S_pu 1 rfl ?_;obtain ⟨hk159, h⟩ := Go.L.chk_some h;refine S_v (r_ar64 rfl rfl rfl hk159) rfl ?_;refine S_pu 1 rfl ?_;refine S_nil ?_;have hL160 := hL157.dropAt (i := 0) rfl;replace he154 := he154.mono (gz_mono hH (fz_dropAt (i := 0) rfl));replace he157 := he157.mono (gz_mono hH (fz_dropAt (i := 0) rfl));replace hG133 := hG133.trans (gz_mono hH (fz_dropAt (i := 0) rfl));have h := Go.L.Nxt.again h hm125;refine At_round ((l121 ++ [x129.2.1]), (l122 ++ [(x129.1.1, x129.1.2.1, x129.1.2.2.1, x129.1.2.2.2)]), x129.2.2.1, (s12_124 + (1 : Int)), v157, xs157, v154, xs154, n125) (.cons rfl (.cons rfl (.cons rfl (.cons rfl (.cons rfl (.cons rfl (.cons rfl (Sub.nil _)))))))) ⟨hL160, he157, he154, h⟩ (Nat.lt_succ_self _)
        ·replace h := Go.L.ite_n (of_decide_eq_false hg141) h
         iterate 8 refine D_no rfl rfl rfl rfl hg141 rfl ?_
         refine D_vg (r_pickF rfl hg141 rfl) rfl rfl rfl rfl hg136 rfl ?_;refine D_v (r_pickF rfl hg136 rfl) rfl rfl ?_;refine D_tail (fun w162 hx162 => ?_);have hL163 := hL135.call hx162;have hle163 := fz_ext hL135 hx162;replace hG133 := hG133.trans (gz_mono hH hle163);refine S_seqnil ?_;refine W_false rfl ?_;refine W_skip ?_;refine At_seq ?_;refine W_p 1 rfl ?_;refine S_v (r_loadBN 0 rfl underlying73 rfl zr73 hL163 rfl) rfl ?_;refine S_litE (r := (.pair .st (.pair (.int .i64) (.pair (.int .i64) .st)))) (l := [(x129.1.1, x129.1.2.1, x129.1.2.2.1, x129.1.2.2.2)]) rfl (fun _ => bsl67_1 _ _ _ _ _) rfl (show 1 ≤ 9223372036854775807 by decide) hH hL163 (.c4 ⟨_, _, rfl, rfl, ⟨_, _, rfl, rfl, ⟨_, _, rfl, rfl, rfl⟩⟩⟩ .nil) ?_;intro v164 w164 hx164 hL164 hle164 hv164;replace hG133 := hG133.trans (gz_mono hH hle164);obtain ⟨hk166, h⟩ := Go.L.chk_some h;refine S_appE (r := (.pair .st (.pair (.int .i64) (.pair (.int .i64) .st)))) (l := l122) (m := [(x129.1.1, x129.1.2.1, x129.1.2.2.1, x129.1.2.2.2)]) 2 rfl rfl underlying67 zr73 rfl (by decide) rfl hH hL164 rfl (hel122.mono hG133) hv164 hk166 ?_;intro v165 w165 xs165 hL165 hle165 he165;replace hv164 := hv164.mono (gz_mono hH hle165);replace hG133 := hG133.trans (gz_mono hH hle165);refine S_pz 1 rfl ?_;refine W_p 2 rfl ?_;refine S_litE (r := (.vec (.int .i64))) (l := [x129.2.1]) rfl (fun _ => bsl68_1 _ (hv130_0.mono hG133).one _) rfl (show 1 ≤ 9223372036854775807 by decide) hH hL165 (.c1 ⟨_, rfl, (hv130_0.mono hG133)⟩ .nil) ?_
         intro v167 w167 hx167 hL167 hle167 hv167;replace he165 := he165.mono (gz_mono hH hle167);replace hG133 := hG133.trans (gz_mono hH hle167);obtain ⟨hk169, h⟩ := Go.L.chk_some h;refine S_appE (r := (.vec (.int .i64))) (l := l121) (m := [x129.2.1]) 1 rfl rfl underlying68 zr52 rfl (by decide) rfl hH hL167 rfl (hel121.mono hG133) hv167 hk169 ?_;intro v168 w168 xs168 hL168 hle168 he168;replace he165 := he165.mono (gz_mono hH hle168);replace hv167 := hv167.mono (gz_mono hH hle168);replace hG133 := hG133.trans (gz_mono hH hle168);refine S_pz 1 rfl ?_;refine W_region ?_;refine S_pu 2 rfl ?_;refine S_nil ?_;refine At_block ?_;refine At_seq ?_;refine W_region ?_;refine S_pu 1 rfl ?_;obtain ⟨hk170, h⟩ := Go.L.chk_some h;refine S_v (r_ar64 rfl rfl rfl hk170) rfl ?_;refine S_pu 1 rfl ?_;refine S_nil ?_;have hL171 := hL168.dropAt (i := 0) rfl;replace he165 := he165.mono (gz_mono hH (fz_dropAt (i := 0) rfl));replace he168 := he168.mono (gz_mono hH (fz_dropAt (i := 0) rfl));replace hG133 := hG133.trans (gz_mono hH (fz_dropAt (i := 0) rfl));have h := Go.L.Nxt.again h hm125;refine At_round ((l121 ++ [x129.2.1]), (l122 ++ [(x129.1.1, x129.1.2.1, x129.1.2.2.1, x129.1.2.2.2)]), x129.2.2.1, (s12_124 + (1 : Int)), v168, xs168, v165, xs165, n125) (.cons rfl (.cons rfl (.cons rfl (.cons rfl (.cons rfl (.cons rfl (.cons rfl (Sub.nil _)))))))) ⟨hL171, he168, he165, h⟩ (Nat.lt_succ_self _)
      ·replace h := Go.L.ite_n hc127 h;refine W_exit ?_;refine At_seq_exit ?_;refine At_loop_exit ?_;replace h := Go.L.Nxt.out h hm125;refine At_exit ?_;refine At_cut (l121, l122, s7_123, vl121, xsl121, vl122, xsl122) (.cons rfl (.cons rfl (.cons rfl (.cons rfl (.cons rfl (Sub.nil _)))))) ⟨hL125, hel121, hel122, h⟩
     ·rintro ⟨l71, l72, s7_73, vl71, xsl71, vl72, xsl72⟩ wr74 ⟨hL74, hel71, hel72, h⟩;refine W_p 5 rfl ?_;refine S_v (r_len rfl underlying35 h0_0) rfl ?_;refine S_pz 5 rfl ?_;refine W_ret ?_;obtain rfl := Option.some.inj h;refine At_got4 rfl (.tmp rfl) (.tmp rfl) (.tmp rfl) (.tmp rfl) ?_;exact ⟨hL74.ext, _, _, rfl, (hL74.ownH hH (i := 1) rfl hel72), (hL74.ownH hH (i := 0) rfl hel71)⟩
end Go.Proofs.YtmfiaecglndldaaGreatDoor
end
section
namespace Go.Proofs.YtmfiaecglndldaaGreatDoor
open Go Go.L
theorem rvint_run : ∀ (n u : Nat) (L : List UInt8), u < 128 ^ n → u < 2 ^ 64 → L.length + n ≤ 1000 → n ≤ 10 → 1 ≤ n → Go.L.run ref4_varint_bl3 (L, (u : Int)) = some (L ++ vintN n u)
  | 0, _, _, _, _, _, _, h => absurd h (by omega)
  | n + 1, u, L, hu, hu2, hL, hn, _ => by
    unfold vintN
    by_cases h : 128 ≤ u
    · have h1 : 1 ≤ n := by
        rcases Nat.eq_zero_or_pos n with h0 | h0
        · subst h0; simp at hu; omega
        · exact h0
      have e : ref4_varint_bl3 (L, (u : Int)) = some (.inl (L ++ [UInt8.ofNat (u % 128 + 128)], ((u / 128 : Nat) : Int))) := by
        unfold ref4_varint_bl3;dsimp only;rw [if_pos (by omega), chk_pos (by omega), chk_pos (by unfold Go.E.Cap; simp; omega), chk_pos (by omega), add128]
        rfl
      rw [run_inl e, rvint_run n (u / 128) _ (Nat.div_lt_of_lt_mul (by rw [Nat.pow_succ, Nat.mul_comm] at hu; exact hu)) (by omega) (by simp; omega) (by omega) h1, if_pos h];simp
    · rw [if_neg h];refine run_inr (m := some (L ++ [UInt8.ofNat u])) ?_;unfold ref4_varint_bl3 ref4_varint_k2;dsimp only;rw [if_neg (by omega), chk_pos (by unfold Go.E.Cap; simp; omega), u8_small]
theorem varint_eq {a : Int} (h : I64 a) : ref4_varint a = some (vint (zz a)) := by
  have hz := zz_lt h;unfold I64 at h;unfold ref4_varint ref4_varint_k1;simp only [wrap_u];have hr : ref4_varint_l3 ([], ((zz a : Nat) : Int)) = some (vint (zz a)) := rvint_run 10 (zz a) [] (Nat.lt_trans hz (by decide)) (by omega) (by decide) (by decide) (by decide)
  by_cases h0 : a < 0
  · rw [if_pos h0, chk_pos (by omega)];rw [← hr]
    congr 2
    unfold zz;rw [if_neg (by omega), Nat.xor_comm, xor_all (by omega)];omega
  · rw [if_neg h0, ← hr]
    congr 2
    unfold zz;rw [if_pos (by omega)];omega
end Go.Proofs.YtmfiaecglndldaaGreatDoor
end
section
namespace Go.L
/-- Steps with slashes between them. -/
def jn : List (List UInt8) → List UInt8
  | [] => []
  | x :: l => if l = [] then x else x ++ 47 :: jn l
/-- A step of a path. -/
def stp (x : List UInt8) : Bool := nok x || decide (x = [35])
theorem stp_ne {x : List UInt8} (h : stp x = true) : x ≠ [] ∧ 47 ∉ x ∧ x ≠ [42] ∧ x ≠ [42, 42] := by
  unfold stp at h;rw [Bool.or_eq_true, decide_eq_true_eq] at h
  rcases h with h | rfl
  · unfold nok at h;rw [Bool.and_eq_true, decide_eq_true_eq] at h;obtain ⟨h1, h2⟩ := h;have hall := List.all_eq_true.1 h2;refine ⟨fun e => by subst e; simp at h1, fun hh => ?_, fun e => by subst e; simp at h1, fun e => by subst e; simp at h1⟩;have := hall 47 hh
    revert this; decide
  · decide
end Go.L
end
section
namespace Go.Proofs.YtmfiaecglndldaaGreatDoor
open Go Go.L
/-! ### Encoding -/
end Go.Proofs.YtmfiaecglndldaaGreatDoor
end
section
namespace Go.L
/-- A path of a valid value. -/
def POk (p : List (List UInt8)) : Prop := ∀ x ∈ p, stp x = true
theorem stp_len {x : List UInt8} (h : stp x = true) : x.length ≤ 32 := by
  unfold stp at h;rw [Bool.or_eq_true, decide_eq_true_eq] at h
  rcases h with h | rfl
  · unfold nok at h; rw [Bool.and_eq_true, decide_eq_true_eq] at h; omega
  · decide
theorem POk.tot {p : List (List UInt8)} (h : POk p) : tot p ≤ 33 * p.length := by
  induction p with
  | nil => simp [Go.L.tot]
  | cons x p ih =>
    have := stp_len (h x (.head _));have := ih fun y hy => h y (.tail _ hy);unfold Go.L.tot;simp only [List.length_cons];omega
theorem POk.nil {p : List (List UInt8)} (h : POk p) : jn p = [] ↔ p = [] := by
  constructor
  · intro hj
    cases p with
    | nil => rfl
    | cons x p =>
      have := (stp_ne (h x (.head _))).1;unfold jn at hj
      split at hj
      · exact absurd hj this
      · simp at hj
  · rintro rfl; rfl
end Go.L
namespace Go.Proofs.YtmfiaecglndldaaGreatDoor
open Go Go.L
section
variable {σ : Type} {step : σ → Lf → Option σ}
end
end Go.Proofs.YtmfiaecglndldaaGreatDoor
end
section
namespace Go.Proofs.YtmfiaecglndldaaGreatDoor
open Go Go.L
/-! ### Build -/
end Go.Proofs.YtmfiaecglndldaaGreatDoor
end
section
namespace Go.Proofs.YtmfiaecglndldaaGreatDoor
open Go Go.E Go.RowKit
set_option maxHeartbeats 1000000
set_option maxRecDepth 10000
open _root_.Go.Proofs.Tryz
noncomputable def shapes_Paths (a0 : Go.L.Pv) : Option ((List (List UInt8)) × (Int × Int)) :=
 Option.bind (value_Validate a0) (fun x3 => if x3.1 = (0 : Int) ∧ x3.2 = (0 : Int) then Option.bind (shapes_leaves pathStep a0 ([] : List (List UInt8)) ([] : List (List UInt8))) (fun x18 => Go.L.chk (x18.length < 4611686018427387904) (Go.L.chk ((srtS x18).length ≤ 9223372036854775807) (some ((Lib.compact (srtS x18)), ((0 : Int), (0 : Int)))))) else some ([], (x3.1, x3.2)))
theorem shapes_Paths_ok (w : World) (H : PH) (hH : Le H (hp w)) {a0 : Go.L.Pv} {v0_0 : Value} {v0_1 : Value} {v0_2 : Value} (h0_0 : Vec .byte H v0_0 (a0.f.2.2.1)) (h0_1 : Vec .st H v0_1 (a0.f.2.2.2.1)) (h0_2 : Vec .tree H v0_2 (a0.f.2.2.2.2)) {r : (List (List UInt8)) × (Int × Int)} (h : shapes_Paths a0 = some r) :
  Ok Tryz.prog 21 [.agg #[.int .i64 a0.f.1, .int .i64 a0.f.2.1, v0_0, v0_1, v0_2]] w (fun v w' => Ext w w' ∧ ∃ u0, v = .tuple #[u0, .agg #[.int .i64 r.2.1, .int .i64 r.2.2]] ∧ OwnH 9 .st H w w' u0 (r.1)) := by
 refine Ok_enter (n := 20) [(0, .agg #[.int .i64 a0.f.1, .int .i64 a0.f.2.1, v0_0, v0_1, v0_2])] func21 rfl rfl rfl rfl rfl ?_;have hL := Lcl.start w;refine W_seqr ?_;refine S_box (t := 38) rfl rfl rfl hL ?_;intro w1 b1 hL1 hle1 _;refine S_pu 1 rfl ?_;refine S_alloc zr23 rfl rfl hL1 ?_;intro w2 b2 hL2 hle2 _;refine S_seqnil ?_;refine W_seq ?_;refine W_seqr ?_;refine S_v (r_loadBN 1 rfl underlying38 rfl zr38 hL2 rfl) rfl ?_;obtain ⟨x3, hb3, h⟩ := Go.L.bind_some h;refine S_callL rfl rfl hL2 (value_Validate_ok (a0 := a0) _ _ (gz_le hH hL2) (h0_0.mono (gz_left hH)) (h0_1.mono (gz_left hH)) (h0_2.mono (gz_left hH)) hb3) ?_;rintro _ w4 rfl hx4 hL4 hle4;refine S_alloc zr23 rfl rfl hL4 ?_;intro w5 b5 hL5 hle5 _;refine S_storeBN 0 rfl rfl rfl zr23 hL5 rfl rfl (onc rfl (onc rfl on0)) ?_;intro w6 hL6 hle6;refine S_seqnil ?_;refine W_seqr ?_;refine S_v (r_loadBN 0 rfl underlying23 rfl zr23 hL6 rfl) rfl ?_;refine S_v (r_build rfl (fun _ => bld23_z _)) rfl ?_;refine S_v (r_neA rfl rfl eqg23 (eq23 _ _ _ _ )) rfl ?_;refine S_seqnil ?_;refine W_ifn rfl (fun hc7 => ?_) (fun hc7 => ?_)
 ·replace h := Go.L.ite_n hc7 h;refine W_seqd (.q 0 (.q 1 (.tail 2))) mixed (by kernel_rfl) (fun w9 hx9 => ?_);have hL10 := hL6.call hx9;refine D_v (r_loadBN 0 rfl underlying23 rfl zr23 hL10 rfl) rfl rfl ?_;refine D_pu 1 rfl ?_;refine D_tail (fun w11 hx11 => ?_);have hL12 := hL10.call hx11;refine S_storeBN 1 rfl rfl rfl zr23 hL12 rfl rfl (onc rfl (onc rfl on0)) ?_;intro w13 hL13 hle13;refine S_seqnil ?_;refine W_ret ?_;refine At_seq_ret ?_;obtain rfl := Option.some.inj h;refine At_got2 rfl (.tmp rfl) (.cell rfl underlying23 rfl zr23 (box_ptr (i := 1) hL13 rfl)) ?_;exact ⟨hL13.ext, _, rfl, OwnH.nil⟩
 ·replace h := Go.L.ite_p hc7 h;refine W_skip ?_;refine At_seq ?_;refine W_seqr ?_;refine S_alloc zr30 rfl rfl hL6 ?_;intro w15 b15 hL15 hle15 _;refine S_seqnil ?_;refine W_seqr ?_;refine S_v (r_loadBN 3 rfl underlying38 rfl zr38 hL15 rfl) rfl ?_;refine S_pu 1 rfl ?_;obtain ⟨hL16, hle16, he16⟩ := row_nilE .st H 9 hL15;have hL17 : Lcl w [.box b15 [.slice none 0 0] 30, .row (.slice none 0 0) 9 1 (([] : List (List UInt8))).length ([]), .box b5 [.int .i64 x3.1, .int .i64 x3.2] 23, .box b2 [.int .i64 (0 : Int), .int .i64 (0 : Int)] 23, .box b1 [.int .i64 a0.f.1, .int .i64 a0.f.2.1, v0_0, v0_1, v0_2] 38] w15 := hL16.picks [1] rfl;have hle17 := fz_picks [1] hL16 hL17 rfl;replace he16 := he16.mono (gz_mono hH hle17);obtain ⟨x18, hb18, h⟩ := Go.L.bind_some h;refine S_call rfl rfl (leaves_paths hH (O := [.box b5 [.int .i64 x3.1, .int .i64 x3.2] 23, .box b2 [.int .i64 (0 : Int), .int .i64 (0 : Int)] 23, .box b1 [.int .i64 a0.f.1, .int .i64 a0.f.2.1, v0_0, v0_1, v0_2] 38]) (a0 := a0) (a1 := ([] : List (List UInt8))) (s := ([] : List (List UInt8))) hL17 he16 (h0_0.mono (gz_left hH)) (h0_1.mono (gz_left hH)) (h0_2.mono (gz_left hH)) (Vec.nil _ _) hb18) ?_;rintro _ w19 ⟨rfl, u19, y19, hL19, hle19, he19⟩;refine S_seqnil ?_;refine W_seqr ?_;refine S_v (r_loadB1 0 rfl underlying30 rfl hL19 rfl rfl) rfl ?_;obtain ⟨hk21, h⟩ := Go.L.chk_some h;refine S_sortS (i := 1) Tryz.laySS rfl ⟨Tryz.f53, _, func53, rfl, rfl⟩ rfl rfl hH hL19 rfl he19 hk21 ?_;intro w20 xs20 hL20 hle20 he20;refine S_seqnil ?_
  refine W_seqr ?_;refine S_v (r_loadB1 0 rfl underlying30 rfl hL20 rfl rfl) rfl ?_;obtain ⟨hk23, h⟩ := Go.L.chk_some h;refine S_compS (i := 1) Tryz.layCS rfl ⟨Tryz.f54, _, func54, rfl, rfl⟩ rfl rfl hH hL20 rfl he20 hk23 ?_;intro v22 w22 xs22 hL22 hle22 he22;refine S_v (r_build rfl (fun _ => bld23_z _)) rfl ?_;refine S_pu 1 rfl ?_;refine S_storeBN 3 rfl rfl rfl zr23 hL22 rfl rfl (onc rfl (onc rfl on0)) ?_;intro w24 hL24 hle24;replace he22 := he22.mono (gz_mono hH hle24);refine S_seqnil ?_;refine W_ret ?_;obtain rfl := Option.some.inj h;refine At_got2 rfl (.tmp rfl) (.cell rfl underlying23 rfl zr23 (box_ptr (i := 3) hL24 rfl)) ?_;exact ⟨hL24.ext, _, rfl, (hL24.ownH hH (i := 1) rfl he22)⟩
end Go.Proofs.YtmfiaecglndldaaGreatDoor
end
